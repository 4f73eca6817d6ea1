/- The document's cells of parts that are right: all of it. Conditions: parts in memory; a table in memory. -/
import Derived.Test.YtebedhnnokmlgaaDoorC14
namespace Go.Proofs.YtebedhnnokmlgaaDoor
open Go Go.Lift Go.RowKit

theorem Pv.is_ext {w w' : World} {pv : Pv} {p : Pt} (h : Pv.is w pv p) (e : Ext w w') : Pv.is w' pv p := ⟨h.1, h.2.1, h.2.2.ext e⟩
theorem flat_split {ps : List Pt} {i : Nat} {p : Pt} (h : ps[i]? = some p) {k : Nat} {c : Ce} (hc : (cels p)[k]? = some c) : (flatC_ ps)[(flatC_ (ps.take i)).length + k]? = some c := by
  have e1 : flatC_ ps = flatC_ (ps.take (i + 1)) ++ flatC_ (ps.drop (i + 1)) := by
    unfold flatC_; rw [← List.flatMap_append, List.take_append_drop]
  have hk := (List.getElem?_eq_some_iff.1 hc).1
  rw [e1, flat_take h, List.getElem?_append_left (by rw [List.length_append]; omega), List.getElem?_append_right (by omega), Nat.add_sub_cancel_left]
  exact hc
theorem refOf_spec {w : World} {q l : Value} {zs ws : List Rg} {tab : Int} {ps : List Pt} (hq : TabR w q zs ws) (nz : zs.length ≤ 1000000) (nw : ws.length ≤ 1000000) (hr : Right tab) (hl : Parts w l ps) (hs : Sml ps) :
    sCall Tryd.prog S.bodkinref18_Of.n [q, l, .int .i64 tab] w fun u w' => Ext w w' ∧ Row w' w.heap.size S.T.api_Cell 4 u encC (ofL (ofT zs ws) tab ps) := by
  have hk : Okt (ofT zs ws) tab := ⟨ofT_le zs ws, hr⟩
  refine S.bodkinref18_Of.call ?_
  unfold S.bodkinref18_Of
  obtain ⟨pvs, hsl, hlen, hall⟩ := hl
  have hn := hs.n
  rw [sLen_sl S.tel_L_bodkinref18_Part hsl]
  refine LoopS.intro (fun us w1 => Ext w w1 ∧ ∃ (i : Nat) (v : Value), us = [v, .int .i64 i] ∧ i ≤ ps.length ∧ Row w1 w.heap.size S.T.int32 1 v (encI .i32) (runs (ps.take i)))
    (fun us _ => match us with | [_, .int _ a] => (ps.length - a).toNat | _ => 0) ⟨Ext.refl w, 0, _, rfl, Nat.zero_le _, Row.nil _ _ _ _ _⟩ ?_
  rintro us vs w1 ⟨he, i, v, rfl, hi, hv⟩
  unfold S.bodkinref18_Of_L1
  have hrl := runs_len hs i
  rw [hd, tl, hd, sBin_lss, sIf_dec]
  refine ⟨fun hlt => ?_, fun hge => ?_⟩
  · obtain ⟨p, hp⟩ : ∃ x, ps[i]? = some x := ⟨_, List.getElem?_eq_getElem (by omega)⟩
    obtain ⟨pv, hpv⟩ : ∃ x, pvs[i]? = some x := ⟨_, List.getElem?_eq_getElem (by omega)⟩
    have his := hall i pv p hpv hp
    have hrl2 := run_len (hs.at_ p (List.mem_of_getElem? hp)).1
    obtain ⟨b, o, hel, hc⟩ := (hsl.ext he).el hpv
    rw [sIdxA_sl S.tel_L_bodkinref18_Part S.tsz_bodkinref18_Part (by omega) (hsl.ext he) hpv rfl, hel, sLoad_agg S.tagg_bodkinref18_Part hc rfl]
    refine sVar S.tze_bodkinref18_Part S.tsz_bodkinref18_Part (by decide) rfl rfl (encP_ok.one pv) fun b2 w2 hb2 hs2 he2 hk2 => ?_
    have E2 := he.trans he2
    rw [sLoad_agg S.tagg_bodkinref18_Part hk2.cells rfl]
    refine (runes_spec (Pv.is_ext his E2)).mono ?_
    rintro x w3 ⟨e3, hx⟩
    refine sAppend_row S.tel_L_int32 S.tsz_int32 (by decide) S.tze_int32 rfl (encI_ok _) ((hv.ext he2).ext e3) (E2.trans e3).size hx (by have : maxLen = 9223372036854775807 := rfl; omega) (by rw [S.tby_int32]; omega) fun v' w4 hv4 hg4 _ => ?_
    rw [sBin_add _ _ ⟨by omega, by omega⟩]
    exact ⟨⟨(E2.trans e3).wr hg4 fun g hg => (hv.lt g hg).1, i + 1, v', by simp, by omega, by rw [runs_take hp]; exact hv4⟩, by simp only []; omega⟩
  · obtain rfl : i = ps.length := by omega
    rw [List.take_length] at hv hrl
    refine (refsizes_spec (hq.ext he) nz nw hr (hv.sl (encI_ok _)) (by omega)).mono ?_
    rintro y w2 ⟨e2, hy⟩
    have E2 := he.trans e2
    have hfl := flat_len hs ps.length
    rw [List.take_length] at hfl
    have hcl : (runs ps).length = (flatC_ ps).length := by rw [← line_flat, lineOf_len]
    rw [hcl, ← line_flat] at hy
    rw [sLen_sl S.tel_L_bodkinref18_Part (hsl.ext E2)]
    have hys := hy.sl (encI_ok _)
    refine LoopS.intro (fun us w3 => Ext w2 w3 ∧ ∃ (i : Nat) (v : Value), us = [v, .int .i64 (flatC_ (ps.take i)).length, .int .i64 i] ∧ i ≤ ps.length ∧ Row w3 w2.heap.size S.T.api_Cell 4 v encC (ofN (flatC_ ps) (szs (ofT zs ws) tab (lineOf (flatC_ ps)) (flatC_ ps).length) (flatC_ (ps.take i)).length))
      (fun us _ => match us with | [_, _, .int _ a] => (ps.length - a).toNat | _ => 0) ⟨Ext.refl _, 0, _, rfl, Nat.zero_le _, Row.nil _ _ _ _ _⟩ ?_
    rintro us vs w3 ⟨e3, i, v3, rfl, hi3, hv3⟩
    unfold S.bodkinref18_Of_L2
    have E3 := E2.trans e3
    rw [hd, tl, hd, tl, hd, sBin_lss, sIf_dec]
    refine ⟨fun hlt => ?_, fun hge3 => ?_⟩
    · obtain ⟨p, hp⟩ : ∃ x, ps[i]? = some x := ⟨_, List.getElem?_eq_getElem (by omega)⟩
      obtain ⟨pv, hpv⟩ : ∃ x, pvs[i]? = some x := ⟨_, List.getElem?_eq_getElem (by omega)⟩
      have his := hall i pv p hpv hp
      obtain ⟨b, o, hel, hc⟩ := (hsl.ext E3).el hpv
      rw [sIdxA_sl S.tel_L_bodkinref18_Part S.tsz_bodkinref18_Part (by omega) (hsl.ext E3) hpv rfl, hel, sLoad_agg S.tagg_bodkinref18_Part hc rfl]
      refine sVar S.tze_bodkinref18_Part S.tsz_bodkinref18_Part (by decide) rfl rfl (encP_ok.one pv) fun b4 w4 hb4 hs4 he4 hk4 => ?_
      rw [sLoad_agg S.tagg_bodkinref18_Part hk4.cells rfl]
      have hv3l : ∀ g, v3.ownBlock = some g → g < w3.heap.size := fun g hg => (hv3.lt g hg).2
      refine (runes_spec2 (w0 := w2) (v := v3) (Pv.is_ext his E2) fun g hg => by have := hv3l g hg; omega).mono ?_
      rintro x w5 ⟨e5, hx⟩
      have E5 := (e3.trans he4).trans e5
      rw [sLen_sl S.tel_L_int32 (hx.sl E5)]
      refine refOf_L3 (w0 := w2) (pv := pv) (p := p) (cs := flatC_ ps) (M := (flatC_ (ps.take i)).length) (i := i) ⟨his.1, his.2.1⟩ (hs.at_ p (List.mem_of_getElem? hp)) E5 hys (szs_bd hk) szs_len (by omega) (hk4.ext e5) (fun e => by have := hv3l b4 e; omega) hx
        (fun k r hr' => flat_split hp (cels_at hr')) ((hv3.ext he4).ext e5) (by omega) fun v6 w6 E6 _ hv6 => ?_
      have hcl2 : (flatC_ (ps.take i)).length + (run p).length = (flatC_ (ps.take (i + 1))).length := by
        rw [flat_take hp, List.length_append]; congr 1; exact (celsN_len (Nat.le_refl _)).symm
      rw [hcl2] at hv6 ⊢
      exact ⟨⟨E6, i + 1, v6, rfl, by omega, hv6⟩, by simp only []; omega⟩
    · obtain rfl : i = ps.length := by omega
      rw [List.take_length] at hv3
      exact ⟨E3, hv3.mono E2.size⟩
end Go.Proofs.YtebedhnnokmlgaaDoor
