/- The document's cells of one part: the loop over its runes. Conditions: the part and the sizes in memory. -/
import Derived.Test.YtebedhnnokmlgaaDoorC13
namespace Go.Proofs.YtebedhnnokmlgaaDoor
open Go Go.Lift Go.RowKit

theorem cels_at {p : Pt} {k : Nat} {r : Int} (h : (run p)[k]? = some r) : (cels p)[k]? = some (cel p r k) := by
  unfold cels celsN
  rw [List.take_length, List.getElem?_map, List.getElem?_zipIdx, h]; simp
theorem refOf_L3 {w0 w : World} {Nx2 : List Value → World → Prop} {pv : Pv} {p : Pt} {v y x : Value} {cs : List Ce} {sz : List Int} {b14 M i : Nat} (hpv : pv.1 = p.1 ∧ pv.2.1 = p.2.1) (hpb : p.2.2.length ≤ 300 ∧ 0 ≤ p.2.1 ∧ p.2.1 ≤ 1099511627776) (hE : Ext w0 w) (hy : Sl w0 y 1 (encI .i64) sz) (hsz : ∀ s ∈ sz, 0 ≤ s ∧ s ≤ 16) (hsn : sz.length = cs.length) (hcn : cs.length ≤ 18000)
    (hk14 : Blk w b14 (encP pv)) (hne14 : v.ownBlock ≠ some b14) (hx : XS w0 w x (run p) v) (hcs : ∀ k r, (run p)[k]? = some r → cs[M + k]? = some (cel p r k)) (hv : Row w w0.heap.size S.T.api_Cell 4 v encC (ofN cs sz M)) (hi : i ≤ 60)
    (hN : ∀ v' w', Ext w0 w' → Apt w w' v v' → Row w' w0.heap.size S.T.api_Cell 4 v' encC (ofN cs sz (M + (run p).length)) → Nx2 [v', .int .i64 (M + (run p).length : Nat), .int .i64 (i + 1 : Nat)] w') :
    LoopS [v, .int .i64 M, (.int .i64 0)] 3 52 w fun us _ w Nx3 => S.bodkinref18_Of_L3 Nx2 Nx3 (.pointer (some ⟨b14, 0, none⟩)) y (.int .i64 i) x (.int .i64 (run p).length) (hd us) (hd (tl us)) (hd (tl (tl us))) w := by
  have hrl := run_len hpb.1
  refine LoopS.intro (fun us w3 => Ext w0 w3 ∧ ∃ (k : Nat) (v3 : Value), us = [v3, .int .i64 (M + k : Nat), .int .i64 k] ∧ k ≤ (run p).length ∧ Apt w w3 v v3 ∧ Row w3 w0.heap.size S.T.api_Cell 4 v3 encC (ofN cs sz (M + k)))
    (fun us _ => match us with | [_, _, .int _ a] => ((run p).length - a).toNat | _ => 0) ⟨hE, 0, v, rfl, Nat.zero_le _, Apt.ext (Ext.refl _) v, hv⟩ ?_
  rintro us vs w3 ⟨E3, k, v3, rfl, hkl, hA, hv3⟩
  unfold S.bodkinref18_Of_L3
  rw [hd, tl, hd, tl, hd, sBin_lss, sIf_dec]
  refine ⟨fun hlt => ?_, fun hge => ?_⟩
  · obtain ⟨r, hr⟩ : ∃ x, (run p)[k]? = some x := ⟨_, List.getElem?_eq_getElem (by omega)⟩
    have hc := hcs k r hr
    have hMk : M + k < cs.length := (List.getElem?_eq_some_iff.1 hc).1
    obtain ⟨s, hs⟩ : ∃ x, sz[M + k]? = some x := ⟨_, List.getElem?_eq_getElem (by omega)⟩
    have hsb := hsz s (List.mem_of_getElem? hs)
    have hxs := (hx.apt hA).sl E3
    obtain ⟨b1, o1, hel1, hc1⟩ := hxs.el hr
    have k14 := hA.blk hk14 hne14
    rw [sIdxA_sl S.tel_L_int32 S.tsz_int32 (by omega) hxs hr rfl, hel1, sLoad_cell S.tcell_int32 (hc1.fst rfl)]
    refine DrawS.ext ?_
    have E : Ext w3 w3.drew := (Ext.refl w3).drew
    obtain ⟨b2, o2, hel2, hc2⟩ := (hy.ext E3).el hs
    rw [stillS_eq (fun w1 h1 K => sFldA_ptr S.tfl_bodkinref18_Part_Kind) E, stillS_cell S.tcell_int (k14.cells.at 0 rfl) E, stillS_eq (fun w1 h1 K => sIdxA_sl S.tel_L_int S.tsz_int (by omega) ((hy.ext E3).ext h1) hs rfl) E, hel2, stillS_cell S.tcell_int (hc2.fst rfl) E,
      stillS_eq (fun w1 h1 K => sFldA_ptr S.tfl_bodkinref18_Part_At) E, stillS_cell S.tcell_int (k14.cells.at 1 rfl) E, stillS_eq (fun w1 h1 K => bC4 r pv.1 s pv.2.1) E]
    refine sAlloc_new S.tze_api_Cell fun bc w4 hbc hs4 he4 hk4 => ?_
    have E4 : Ext w3 w4 := E.trans he4
    refine ⟨E4, ?_⟩
    refine sStore_blk (vs := encC (r, pv.1, s, pv.2.1)) S.tsz_api_Cell (by decide) hk4 rfl rfl (by simp) (encC_ok.one _) fun w5 hs5 hg5 hk5 => ?_
    have hk5 : Blk w5 bc (encC (r, pv.1, s, pv.2.1)) := hk5
    have hw3c : w3.heap.size ≤ bc := by have e0 : w3.drew.heap.size = w3.heap.size := rfl; omega
    have E5 : Ext w3 w5 := E4.wr hg5 fun g hg => by cases hg; exact hw3c
    have hkr : k < 300 := by omega
    refine JoinS.intro (fun us w' => us = [] ∧ Ext w3 w' ∧ bc < w'.heap.size ∧ Blk w' bc (encC (r, p.1, s, (cel p r k).2.2.2))) ?_ ?_
    · rw [sFldA_ptr S.tfl_bodkinref18_Part_Kind, sLoad_cell S.tcell_int ((k14.ext E5).cells.at 0 rfl), sBin_eql, sIf_dec]
      refine ⟨fun h1 => ?_, fun h1 => ⟨rfl, E5, by omega, ?_⟩⟩
      · rw [sFldA_ptr S.tfl_bodkinref18_Part_At, sLoad_cell S.tcell_int ((k14.ext E5).cells.at 1 rfl), sBin_add _ _ ⟨by omega, by omega⟩, sFldA_ptr S.tfl_api_Cell_At]
        refine sStore_blk (vs := [.int .i64 (pv.2.1 + k)]) S.tsz_int (by decide) hk5 rfl rfl (by simp [encC]) (one_int _) fun w6 hs6 hg6 hk6 => ?_
        have hk6 : Blk w6 bc (encC (r, pv.1, s, pv.2.1 + k)) := hk6
        refine ⟨rfl, E5.wr hg6 (fun g hg => by cases hg; exact hw3c), by omega, ?_⟩
        have : (cel p r k).2.2.2 = pv.2.1 + k := by unfold cel; rw [hpv.2]; exact if_pos (by omega)
        rw [this, ← hpv.1]; exact hk6
      · have : (cel p r k).2.2.2 = pv.2.1 := by unfold cel; rw [hpv.2]; exact if_neg (by omega)
        rw [this, ← hpv.1]; exact hk5
    rintro us vs w6 ⟨rfl, E6, hb6, hk6⟩
    unfold S.bodkinref18_Of_J4
    refine JoinS.intro (fun us w' => us = [] ∧ Ext w3 w' ∧ bc < w'.heap.size ∧ Blk w' bc (encC (r, p.1, widC (cel p r k) s, (cel p r k).2.2.2))) ?_ ?_
    · rw [sBin_eql, sIf_dec]
      refine ⟨fun h9 => ?_, fun h9 => ⟨rfl, E6, hb6, by rw [show widC (cel p r k) s = s from if_neg h9]; exact hk6⟩⟩
      rw [sFldA_ptr S.tfl_api_Cell_Width]
      refine sStore_blk (vs := [.int .i64 1]) S.tsz_int (by decide) hk6 rfl rfl (by simp [encC]) (one_int 1) fun w7 hs7 hg7 hk7 => ?_
      have hk7 : Blk w7 bc (encC (r, p.1, 1, (cel p r k).2.2.2)) := hk7
      exact ⟨rfl, E6.wr hg7 (fun g hg => by cases hg; exact hw3c), by omega, by rw [show widC (cel p r k) s = 1 from if_pos h9]; exact hk7⟩
    rintro us vs w7 ⟨rfl, E7, hb7, hk7⟩
    refine refOf_J5 (w0 := w0) (cs := cs) (sz := sz) (c := cel p r k) hc hs hsb (by omega) (by omega) (E3.trans E7) hb7 hk7 (fun e => ?_) (hv3.ext E7) (ofN_len hsz _) hy fun v' w8 E8 hvo hsame hsz8 hv8 => ?_
    · have := (hv3.lt bc e).2; omega
    refine ⟨⟨E8, k + 1, v', by rw [Nat.add_assoc], by omega, (hA.trans (Apt.ext E7 v3)).trans ⟨hsz8, hsame, hvo⟩, hv8⟩, by simp only []; omega⟩
  · have hkk : k = (run p).length := by omega
    subst hkk
    rw [sBin_add _ _ ⟨by omega, by omega⟩]
    exact hN v3 w3 E3 hA hv3
end Go.Proofs.YtebedhnnokmlgaaDoor
