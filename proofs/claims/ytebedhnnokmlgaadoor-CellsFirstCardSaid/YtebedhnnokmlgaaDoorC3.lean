/- Parts of a line, and their runes as cells. Conditions: parts in memory; not too many runes, places that can be summed. -/
import Derived.Test.YtebedhnnokmlgaaDoorC2
namespace Go.Proofs.YtebedhnnokmlgaaDoor
open Go Go.Lift Go.RowKit

/-- A part: its kind, its place, its runes. -/
abbrev Pt := Int × Int × List Int
abbrev Pv := Int × Int × SV
def encP (p : Pv) : List Value := [.int .i64 p.1, .int .i64 p.2.1, sv p.2.2]
theorem encP_ok : Enc encP 3 := ⟨fun _ => rfl, fun x u hu => by simp [encP] at hu; rcases hu with rfl | rfl | rfl <;> rfl⟩
def Pv.is (w : World) (pv : Pv) (p : Pt) : Prop := pv.1 = p.1 ∧ pv.2.1 = p.2.1 ∧ Sl w (sv pv.2.2) 1 (encI .i32) p.2.2
def Parts (w : World) (l : Value) (ps : List Pt) : Prop := ∃ pvs : List Pv, Sl w l 3 encP pvs ∧ pvs.length = ps.length ∧ ∀ (i : Nat) (pv : Pv) (p : Pt), pvs[i]? = some pv → ps[i]? = some p → Pv.is w pv p
theorem Parts.ext {w w' : World} {l : Value} {ps : List Pt} (h : Parts w l ps) (e : Ext w w') : Parts w' l ps := by
  obtain ⟨pvs, h1, h2, h3⟩ := h
  exact ⟨pvs, h1.ext e, h2, fun i pv p a b => let ⟨x, y, z⟩ := h3 i pv p a b; ⟨x, y, z.ext e⟩⟩
structure Sml (ps : List Pt) : Prop where
  n : ps.length ≤ 60
  at_ : ∀ p ∈ ps, p.2.2.length ≤ 300 ∧ 0 ≤ p.2.1 ∧ p.2.1 ≤ 1099511627776
/-- What a part shows. -/
def run (p : Pt) : List Int := if p.1 = 3 then [8230] else p.2.2
def cel (p : Pt) (r : Int) (k : Nat) : Ce := (r, p.1, 0, if p.1 = 1 then p.2.1 + k else p.2.1)
def celsN (p : Pt) (n : Nat) : List Ce := ((run p).take n).zipIdx.map fun x => cel p x.1 x.2
def cels (p : Pt) : List Ce := celsN p (run p).length
def flatC_ (ps : List Pt) : List Ce := ps.flatMap cels
def OkP (ps : List Pt) : Prop := ∀ p ∈ ps, 1 ≤ p.1 ∧ p.1 ≤ 3
theorem celsN_succ {p : Pt} {k : Nat} {r : Int} (h : (run p)[k]? = some r) : celsN p (k + 1) = celsN p k ++ [cel p r k] := by
  have hk := (List.getElem?_eq_some_iff.1 h).1
  unfold celsN
  rw [List.take_add_one, h, List.zipIdx_append, List.map_append]
  have : min k (run p).length = k := by omega
  simp [List.length_take, this]
theorem celsN_len {p : Pt} {k : Nat} (h : k ≤ (run p).length) : (celsN p k).length = k := by
  unfold celsN; simp; omega
theorem run_len {p : Pt} (h : p.2.2.length ≤ 300) : (run p).length ≤ 300 := by
  unfold run
  split
  · simp
  · exact h
theorem flat_take {ps : List Pt} {i : Nat} {p : Pt} (h : ps[i]? = some p) : flatC_ (ps.take (i + 1)) = flatC_ (ps.take i) ++ cels p := by
  unfold flatC_; rw [take_succ_of h, List.flatMap_append]; simp
theorem flat_len {ps : List Pt} (h : Sml ps) (i : Nat) : (flatC_ (ps.take i)).length ≤ 300 * i := by
  induction i with
  | zero => simp [flatC_]
  | succ i ih =>
    cases hx : ps[i]? with
    | none => rw [List.take_add_one, hx]; simp only [Option.toList_none, List.append_nil]; omega
    | some p =>
      rw [flat_take hx, List.length_append]
      have h1 := run_len (h.at_ p (List.mem_of_getElem? hx)).1
      have : (cels p).length = (run p).length := celsN_len (Nat.le_refl _)
      omega

/-- One cell more. -/
theorem pushC {w : World} {K : K1} {base : Nat} {v : Value} {xs : List Ce} {x : Ce} (hr : Row w base S.T.api_Cell 4 v encC xs) (hb : base ≤ w.heap.size) (hn : xs.length ≤ 2000000)
    (h : ∀ v' w', Row w' base S.T.api_Cell 4 v' encC (xs ++ [x]) → w.grownBy w' v.ownBlock → (v'.ownBlock = v.ownBlock ∨ ∀ g, v'.ownBlock = some g → w.heap.size ≤ g) → K v' w') :
    sBuildSlice Tryd.prog 46 1 [(0, .agg (encC x).toArray)] w fun t w => sBuiltin Tryd.prog .append [46, 46] 46 [v, t] w K := by
  refine sBuildSlice_own (n := 1) (enc := encC) (xs := [x]) (lp := [(0, encC x)]) S.tel_L_api_Cell S.tsz_api_Cell rfl S.tze_api_Cell (by decide) (by decide) encC_ok rfl rfl fun t w1 ht ho1 he1 hs1 => ?_
  refine sAppend_row S.tel_L_api_Cell S.tsz_api_Cell (by decide) S.tze_api_Cell rfl encC_ok (hr.ext he1) (by omega) (ho1.sl encC_ok) (by have : maxLen = 9223372036854775807 := rfl; simp; omega) (by rw [S.tby_api_Cell]; simp; omega) fun v' w2 hr2 hg2 hor => ?_
  exact h v' w2 hr2 (grown_trans (grown_of_ext he1 _) hg2) (hor.imp id fun h g hg => by have := h g hg; omega)
theorem bC3 {w : World} {K : K1} (r k a : Int) : sBuild Tryd.prog 58 [(0, .int .i32 r), (1, .int .i64 k), (3, .int .i64 a)] w K = K (.agg (encC (r, k, 0, a)).toArray) w :=
  sBuild_of (lp := [(0, [.int .i32 r]), (1, [.int .i64 k]), (3, [.int .i64 a])]) S.tze_api_Cell S.tpl_api_Cell rfl rfl

theorem flat_spec {w : World} {l : Value} {ps : List Pt} (hl : Parts w l ps) (hs : Sml ps) :
    sCall Tryd.prog S.cells_flat.n [l] w fun u w' => Ext w w' ∧ ((OkP ps ∧ ∃ v, u = .tuple #[v, .bool true] ∧ Row w' w.heap.size S.T.api_Cell 4 v encC (flatC_ ps)) ∨ (¬ OkP ps ∧ u = .tuple #[.slice none 0 0, .bool false])) := by
  refine S.cells_flat.call ?_
  unfold S.cells_flat
  obtain ⟨pvs, hsl, hlen, hall⟩ := hl
  rw [sLen_sl S.tel_L_cells_Part hsl]
  have hn := hs.n
  refine LoopS.intro (fun us w1 => Ext w w1 ∧ ∃ (i : Nat) (v : Value), us = [v, .int .i64 i] ∧ i ≤ ps.length ∧ OkP (ps.take i) ∧ Row w1 w.heap.size S.T.api_Cell 4 v encC (flatC_ (ps.take i)))
    (fun us _ => match us with | [_, .int _ a] => (ps.length - a).toNat | _ => 0) ⟨Ext.refl w, 0, _, rfl, Nat.zero_le _, (fun p hp => by simp at hp), Row.nil _ _ _ _ _⟩ ?_
  rintro us vs w1 ⟨he, i, v, rfl, hi, hok, hv⟩
  unfold S.cells_flat_L1
  rw [hd, tl, hd, sBin_lss, sIf_dec]
  refine ⟨fun hlt => ?_, fun hge => ⟨he, .inl (by
    obtain rfl : i = ps.length := by omega
    rw [List.take_length] at hok hv
    exact ⟨hok, v, rfl, hv⟩)⟩⟩
  obtain ⟨p, hp⟩ : ∃ x, ps[i]? = some x := ⟨_, List.getElem?_eq_getElem (by omega)⟩
  obtain ⟨pv, hpv⟩ : ∃ x, pvs[i]? = some x := ⟨_, List.getElem?_eq_getElem (by omega)⟩
  obtain ⟨hk1, hk2, hrs⟩ := hall i pv p hpv hp
  obtain ⟨hpl, hpa, hpb⟩ := hs.at_ p (List.mem_of_getElem? hp)
  obtain ⟨b, o, hel, hc⟩ := (hsl.ext he).el hpv
  have hfl := flat_len hs i
  have htk : ps.take (i + 1) = ps.take i ++ [p] := take_succ_of hp
  rw [sIdxA_sl S.tel_L_cells_Part S.tsz_cells_Part (by omega) (hsl.ext he) hpv rfl, hel, sLoad_agg S.tagg_cells_Part hc rfl]
  refine sVar S.tze_cells_Part S.tsz_cells_Part (by decide) rfl rfl (encP_ok.one pv) fun b2 w2 hb2 hs2 he2 hk => ?_
  have E2 := he.trans he2
  have hv2 := hv.ext he2
  have kd := hk.cells.at 0 rfl
  rw [sFldA_ptr S.tfl_cells_Part_Kind, sLoad_cell S.tcell_int kd]
  refine JoinS.intro (fun us w' => w' = w2 ∧ ∃ s : Int, us = [.int .i64 s] ∧ ((pv.1 = 1 ∧ s = 1) ∨ (pv.1 = 2 ∧ s = 0))) ?_ ?_
  · rw [sBin_eql, sIf_dec]
    refine ⟨fun h1 => ⟨rfl, 1, rfl, .inl ⟨h1, rfl⟩⟩, fun h1 => ?_⟩
    rw [sBin_eql, sIf_dec]
    refine ⟨fun h2 => ⟨rfl, 0, rfl, .inr ⟨h2, rfl⟩⟩, fun h2 => ?_⟩
    rw [sBin_eql, sIf_dec]
    refine ⟨fun h3 => ?_, fun h3 => ⟨E2, .inr ⟨fun h => ?_, rfl⟩⟩⟩
    · rw [sFldA_ptr S.tfl_cells_Part_Kind, sLoad_cell S.tcell_int kd, sFldA_ptr S.tfl_cells_Part_At, sLoad_cell S.tcell_int (hk.cells.at 1 rfl), bC3]
      refine pushC hv2 E2.size (by omega) fun v' w3 hv3 hg3 _ => ?_
      rw [sBin_add _ _ ⟨by omega, by omega⟩]
      have hcl : cels p = [(8230, pv.1, 0, pv.2.1)] := by
        have h31 : p.1 = 3 := by omega
        unfold cels celsN run cel
        simp [h31, hk1, hk2]
      refine ⟨⟨E2.wr hg3 fun g hg => (hv.lt g hg).1, i + 1, v', by simp, by omega, ?_, by rw [flat_take hp, hcl]; exact hv3⟩, by simp only []; omega⟩
      intro x hx
      rw [htk] at hx
      rcases List.mem_append.1 hx with hx | hx
      · exact hok x hx
      · simp at hx; subst hx; omega
    · have := h p (List.mem_of_getElem? hp); omega
  rintro us vs w2 ⟨rfl, s, rfl, hss⟩
  unfold S.cells_flat_J2
  have hrun : run p = p.2.2 := by unfold run; rw [if_neg (by omega)]
  rw [hd, sFldA_ptr S.tfl_cells_Part_Runes, sLoad_cell S.tcell_L_int32 (hk.cells.at 2 rfl), sLen_sl S.tel_L_int32 (hrs.ext E2)]
  refine LoopS.intro (fun us w3 => Ext w w3 ∧ Blk w3 b2 (encP pv) ∧ b2 < w3.heap.size ∧ ∃ (k : Nat) (v : Value), us = [v, .int .i64 k] ∧ k ≤ p.2.2.length ∧ v.ownBlock ≠ some b2 ∧ Row w3 w.heap.size S.T.api_Cell 4 v encC (flatC_ (ps.take i) ++ celsN p k))
    (fun us _ => match us with | [_, .int _ a] => (p.2.2.length - a).toNat | _ => 0) ⟨E2, hk, by omega, 0, v, rfl, Nat.zero_le _, (fun e => by have := (hv.lt b2 e).2; omega), by unfold celsN; simpa using hv2⟩ ?_
  rintro us vs w3 ⟨E3, hk3, hb3, k, v3, rfl, hkl, hne3, hv3⟩
  unfold S.cells_flat_L3
  rw [hd, tl, hd, sBin_lss, sIf_dec]
  refine ⟨fun hlt2 => ?_, fun hge2 => ?_⟩
  · obtain ⟨r, hr⟩ : ∃ x, p.2.2[k]? = some x := ⟨_, List.getElem?_eq_getElem (by omega)⟩
    obtain ⟨b4, o4, hel4, hc4⟩ := (hrs.ext E3).el hr
    have kk := hk3.cells
    have hmul : I64 (s * (k : Int)) := by rcases hss with ⟨_, rfl⟩ | ⟨_, rfl⟩ <;> exact ⟨by omega, by omega⟩
    have hat : I64 (pv.2.1 + s * (k : Int)) := by rcases hss with ⟨_, rfl⟩ | ⟨_, rfl⟩ <;> exact ⟨by omega, by omega⟩
    rw [sIdxA_sl S.tel_L_int32 S.tsz_int32 (by omega) (hrs.ext E3) hr rfl, hel4, sLoad_cell S.tcell_int32 (hc4.fst rfl), sFldA_ptr S.tfl_cells_Part_Kind, sLoad_cell S.tcell_int (kk.at 0 rfl), sFldA_ptr S.tfl_cells_Part_At, sLoad_cell S.tcell_int (kk.at 1 rfl), sBin_mul _ _ hmul, sBin_add _ _ hat, bC3]
    have hcl := celsN_len (p := p) (k := k) (by rw [hrun]; omega)
    refine pushC hv3 E3.size (by rw [List.length_append, hcl]; omega) fun v' w4 hv4 hg4 hor => ?_
    rw [sBin_add _ _ ⟨by omega, by omega⟩]
    refine ⟨⟨E3.wr hg4 (fun g hg => (hv3.lt g hg).1), hk3.wr hg4 (fun e => hne3 e.symm), by have := hg4.size; omega, k + 1, v', by simp, by omega, ?_, ?_⟩, by simp only []; omega⟩
    · intro e
      rcases hor with h | h
      · exact hne3 (h ▸ e)
      · have := h b2 e; omega
    · rw [celsN_succ (r := r) (by rw [hrun]; exact hr), ← List.append_assoc]
      have : cel p r k = (r, pv.1, 0, pv.2.1 + s * (k : Int)) := by
        unfold cel
        rcases hss with ⟨h1, rfl⟩ | ⟨h1, rfl⟩
        · rw [if_pos (by omega)]; simp [hk1, hk2]
        · rw [if_neg (by omega)]; simp [hk1, hk2]
      rw [this]; exact hv4
  · rw [sBin_add _ _ ⟨by omega, by omega⟩]
    obtain rfl : k = p.2.2.length := by omega
    refine ⟨⟨E3, i + 1, v3, by simp, by omega, ?_, ?_⟩, by simp only []; omega⟩
    · intro x hx
      rw [htk] at hx
      rcases List.mem_append.1 hx with hx | hx
      · exact hok x hx
      · simp at hx; subst hx; omega
    · rw [flat_take hp, cels, hrun]; exact hv3
end Go.Proofs.YtebedhnnokmlgaaDoor
