/- What 'Of' of the cells gives. Conditions: parts in memory; a table that answers. -/
import Derived.Test.YtebedhnnokmlgaaDoorC3
namespace Go.Proofs.YtebedhnnokmlgaaDoor
open Go Go.Lift Go.RowKit

/-- A cell with its size: what stands for it. -/
def widC (c : Ce) (n : Int) : Int := if c.1 = 9 then 1 else n
def exp (c : Ce) (n : Int) : List Ce := (c.1, c.2.1, widC c n, c.2.2.2) :: List.replicate (n - widC c n).toNat (32, 4, 1, c.2.2.2)
def ofN (cs : List Ce) (sz : List Int) (n : Nat) : List Ce := ((cs.zip sz).take n).flatMap fun x => exp x.1 x.2
def lineOf (cs : List Ce) : List Int := cs.map (·.1)
theorem ofN_succ {cs : List Ce} {sz : List Int} {n : Nat} {c : Ce} {s : Int} (h1 : cs[n]? = some c) (h2 : sz[n]? = some s) : ofN cs sz (n + 1) = ofN cs sz n ++ exp c s := by
  have : (cs.zip sz)[n]? = some (c, s) := by rw [List.getElem?_zip_eq_some]; exact ⟨h1, h2⟩
  unfold ofN
  rw [take_succ_of this, List.flatMap_append]; simp
theorem exp_len {c : Ce} {n : Int} (h0 : 0 ≤ n) (h : n ≤ 16) : (exp c n).length ≤ 17 := by
  unfold exp widC; rw [List.length_cons, List.length_replicate]; split <;> omega
theorem ofN_len {cs : List Ce} {sz : List Int} (h : ∀ s ∈ sz, 0 ≤ s ∧ s ≤ 16) (n : Nat) : (ofN cs sz n).length ≤ 17 * n := by
  induction n with
  | zero => simp [ofN]
  | succ n ih =>
    cases hz : (cs.zip sz)[n]? with
    | none => unfold ofN at *; rw [List.take_add_one, hz]; simp only [Option.toList_none, List.append_nil]; omega
    | some x =>
      obtain ⟨c, s⟩ := x
      obtain ⟨h1, h2⟩ := List.getElem?_zip_eq_some.1 hz
      have h1 : cs[n]? = some c := h1
      have h2 : sz[n]? = some s := h2
      rw [ofN_succ h1 h2, List.length_append]
      have h3 := h s (List.mem_of_getElem? h2)
      have := exp_len (c := c) h3.1 h3.2
      omega
theorem pushR {w : World} {K : K1} {base : Nat} {v : Value} {xs : List Int} {x : Int} (hr : Row w base S.T.int32 1 v (encI .i32) xs) (hb : base ≤ w.heap.size) (hn : xs.length ≤ 2000000)
    (h : ∀ v' w', Row w' base S.T.int32 1 v' (encI .i32) (xs ++ [x]) → w.grownBy w' v.ownBlock → K v' w') :
    sBuildSlice Tryd.prog 22 1 [(0, .int .i32 x)] w fun t w => sBuiltin Tryd.prog .append [22, 22] 22 [v, t] w K := by
  refine sBuildSlice_own (enc := encI .i32) (xs := [x]) (lp := [(0, [.int .i32 x])]) S.tel_L_int32 S.tsz_int32 rfl S.tze_int32 (by decide) (by decide) (encI_ok _) rfl rfl fun t w1 ht ho1 he1 hs1 => ?_
  refine sAppend_row S.tel_L_int32 S.tsz_int32 (by decide) S.tze_int32 rfl (encI_ok _) (hr.ext he1) (by omega) (ho1.sl (encI_ok _)) (by have : maxLen = 9223372036854775807 := rfl; simp; omega) (by rw [S.tby_int32]; simp; omega) fun v' w2 hr2 hg2 _ => ?_
  exact h v' w2 hr2 (grown_trans (grown_of_ext he1 _) hg2)
theorem bC4 {w : World} {K : K1} (r k n a : Int) : sBuild Tryd.prog 58 [(0, .int .i32 r), (1, .int .i64 k), (2, .int .i64 n), (3, .int .i64 a)] w K = K (.agg (encC (r, k, n, a)).toArray) w :=
  sBuild_of (lp := [(0, [.int .i32 r]), (1, [.int .i64 k]), (2, [.int .i64 n]), (3, [.int .i64 a])]) S.tze_api_Cell S.tpl_api_Cell rfl rfl

/-- The second loop: each cell, and what fills it up. -/
theorem of_L2 {w : World} {K : K1} {x y : Value} {cs : List Ce} {sz : List Int} (hx : Sl w x 4 encC cs) (hy : Sl w y 1 (encI .i64) sz) (hn : cs.length ≤ 20000) (hsn : sz.length = cs.length) (hsz : ∀ s ∈ sz, 0 ≤ s ∧ s ≤ 16)
    (hK : ∀ v w', Ext w w' → Row w' w.heap.size S.T.api_Cell 4 v encC (ofN cs sz cs.length) → K (.tuple #[v, .int .i64 0]) w') :
    LoopS [(.slice none 0 0), (.int .i64 0)] 2 36 w fun us _ w Nx2 => S.cells_Of_L2 K Nx2 x y (.int .i64 cs.length) (hd us) (hd (tl us)) w := by
  refine LoopS.intro (fun us w1 => Ext w w1 ∧ ∃ (i : Nat) (v : Value), us = [v, .int .i64 i] ∧ i ≤ cs.length ∧ Row w1 w.heap.size S.T.api_Cell 4 v encC (ofN cs sz i))
    (fun us _ => match us with | [_, .int _ a] => (cs.length - a).toNat | _ => 0) ⟨Ext.refl w, 0, _, rfl, Nat.zero_le _, Row.nil _ _ _ _ _⟩ ?_
  rintro us vs w1 ⟨he, i, v, rfl, hi, hv⟩
  unfold S.cells_Of_L2
  rw [hd, tl, hd, sBin_lss, sIf_dec]
  refine ⟨fun hlt => ?_, fun hge => hK v w1 he (by obtain rfl : i = cs.length := by omega
                                                   exact hv)⟩
  obtain ⟨c, hc⟩ : ∃ x, cs[i]? = some x := ⟨_, List.getElem?_eq_getElem (by omega)⟩
  obtain ⟨s, hs⟩ : ∃ x, sz[i]? = some x := ⟨_, List.getElem?_eq_getElem (by omega)⟩
  have hsb := hsz s (List.mem_of_getElem? hs)
  have hol := ofN_len (cs := cs) hsz i
  obtain ⟨b1, o1, hel1, hc1⟩ := (hx.ext he).el hc
  rw [sIdxA_sl S.tel_L_api_Cell S.tsz_api_Cell (by omega) (hx.ext he) hc rfl, hel1, sLoad_agg S.tagg_api_Cell hc1 rfl]
  refine sVar S.tze_api_Cell S.tsz_api_Cell (by decide) rfl rfl (encC_ok.one c) fun b2 w2 hb2 hs2 he2 hk => ?_
  have E2 := he.trans he2
  obtain ⟨b3, o3, hel3, hc3⟩ := (hy.ext E2).el hs
  rw [sIdxA_sl S.tel_L_int S.tsz_int (by omega) (hy.ext E2) hs rfl, hel3, sLoad_cell S.tcell_int (hc3.fst rfl), sFldA_ptr S.tfl_api_Cell_Width]
  refine sStore_blk (vs := [.int .i64 s]) S.tsz_int (by decide) hk rfl rfl (by simp [encC]) (one_int s) fun w3 hs3 hg3 hk3 => ?_
  have hk3 : Blk w3 b2 (encC (c.1, c.2.1, s, c.2.2.2)) := hk3
  have hvl : ∀ g, v.ownBlock = some g → w.heap.size ≤ g ∧ g < w1.heap.size := fun g hg => hv.lt g hg
  have hwb : w.heap.size ≤ b2 := by have := he.size; omega
  have E3 : Ext w w3 := E2.wr hg3 fun g hg => by cases hg; exact hwb
  have hv3 : Row w3 w.heap.size S.T.api_Cell 4 v encC (ofN cs sz i) := (hv.ext he2).wr hg3 (by
    cases hvo : v.ownBlock with
    | none => exact .inl rfl
    | some g => exact .inr (by intro e; cases e; have := hvl b2 hvo; omega))
  refine JoinS.intro (fun us w' => us = [] ∧ Ext w w' ∧ b2 < w'.heap.size ∧ Blk w' b2 (encC (c.1, c.2.1, widC c s, c.2.2.2)) ∧ Row w' w.heap.size S.T.api_Cell 4 v encC (ofN cs sz i)) ?_ ?_
  · rw [sFldA_ptr S.tfl_api_Cell_Rune, sLoad_cell S.tcell_int32 (hk3.cells.at 0 rfl), sBin_eql, sIf_dec]
    refine ⟨fun h9 => ?_, fun h9 => ⟨rfl, E3, by omega, by rw [show widC c s = s from if_neg h9]; exact hk3, hv3⟩⟩
    rw [sFldA_ptr S.tfl_api_Cell_Width]
    refine sStore_blk (vs := [.int .i64 1]) S.tsz_int (by decide) hk3 rfl rfl (by simp [encC]) (one_int 1) fun w4 hs4 hg4 hk4 => ?_
    have hk4 : Blk w4 b2 (encC (c.1, c.2.1, 1, c.2.2.2)) := hk4
    refine ⟨rfl, E3.wr hg4 (fun g hg => by cases hg; exact hwb), by omega, by rw [show widC c s = 1 from if_pos h9]; exact hk4, hv3.wr hg4 (by
      cases hvo : v.ownBlock with
      | none => exact .inl rfl
      | some g => exact .inr (by intro e; cases e; have := hvl b2 hvo; omega))⟩
  rintro us vs w4 ⟨rfl, E4, hb4, hk4, hv4⟩
  unfold S.cells_Of_J3
  rw [sLoad_agg S.tagg_api_Cell hk4.cells rfl]
  refine pushC hv4 E4.size (by omega) fun v5 w5 hv5 hg5 hor5 => ?_
  have hne4 : v.ownBlock ≠ some b2 := fun e => by have := hvl b2 e; omega
  have E5 : Ext w w5 := E4.wr hg5 fun g hg => (hv4.lt g hg).1
  have hk5 := hk4.wr hg5 (fun e => hne4 e.symm)
  have hne5 : v5.ownBlock ≠ some b2 := fun e => by
    rcases hor5 with h | h
    · exact hne4 (h ▸ e)
    · have := h b2 e; omega
  have hwc : 0 ≤ widC c s ∧ widC c s ≤ 16 := by unfold widC; split <;> omega
  have kw : w5.cell? ⟨b2, 0 + 2, none⟩ = some (.int .i64 (widC c s)) := hk5.cells.at 2 rfl
  refine DrawS.ext ?_
  have E : Ext w5 w5.drew := (Ext.refl w5).drew
  obtain ⟨b6, o6, hel6, hc6⟩ := (hy.ext E5).el hs
  rw [stillS_eq (fun w1 h1 K => sIdxA_sl S.tel_L_int S.tsz_int (by omega) ((hy.ext E5).ext h1) hs rfl) E, hel6, stillS_cell S.tcell_int (hc6.fst rfl) E, stillS_eq (fun w1 h1 K => sFldA_ptr S.tfl_api_Cell_Width) E, stillS_cell S.tcell_int kw E, stillS_eq (fun w1 h1 K => sBin_sub _ _ ⟨by omega, by omega⟩) E]
  refine LoopS.intro (fun us w7 => Ext w w7 ∧ b2 < w7.heap.size ∧ Blk w7 b2 (encC (c.1, c.2.1, widC c s, c.2.2.2)) ∧ ∃ (k : Nat) (v7 : Value), us = [v7, .int .i64 k] ∧ k ≤ (s - widC c s).toNat ∧ v7.ownBlock ≠ some b2 ∧ Row w7 w.heap.size S.T.api_Cell 4 v7 encC (ofN cs sz i ++ [(c.1, c.2.1, widC c s, c.2.2.2)] ++ List.replicate k (32, 4, 1, c.2.2.2)))
    (fun us _ => match us with | [_, .int _ a] => (s - widC c s - a).toNat | _ => 0) ⟨E5.trans E, (by have := hg5.size; show b2 < w5.heap.size; omega), hk5.ext E, 0, v5, rfl, Nat.zero_le _, hne5, by simpa using hv5.ext E⟩ ?_
  rintro us vs w7 ⟨E7, hb7, hk7, k, v7, rfl, hkl, hne7, hv7⟩
  unfold S.cells_Of_L4
  rw [hd, tl, hd, sBin_lss, sIf_dec]
  refine ⟨fun hlt2 => ?_, fun hge2 => ?_⟩
  · have ka : w7.cell? ⟨b2, 0 + 3, none⟩ = some (.int .i64 c.2.2.2) := hk7.cells.at 3 rfl
    rw [sFldA_ptr S.tfl_api_Cell_At, sLoad_cell S.tcell_int ka, bC4]
    refine pushC hv7 E7.size (by simp; omega) fun v8 w8 hv8 hg8 hor8 => ?_
    rw [sBin_add _ _ ⟨by omega, by omega⟩]
    refine ⟨⟨E7.wr hg8 (fun g hg => (hv7.lt g hg).1), by have := hg8.size; omega, hk7.wr hg8 (fun e => hne7 e.symm), k + 1, v8, by simp, by omega, ?_, ?_⟩, by simp only []; omega⟩
    · intro e
      rcases hor8 with h | h
      · exact hne7 (h ▸ e)
      · have := h b2 e; omega
    · rw [List.replicate_succ', ← List.append_assoc]; exact hv8
  · rw [sBin_add _ _ ⟨by omega, by omega⟩]
    have hkk : k = (s - widC c s).toNat := by omega
    subst hkk
    refine ⟨⟨E7, i + 1, v7, by simp, by omega, ?_⟩, by simp only []; omega⟩
    rw [ofN_succ hc hs, exp, List.append_cons]
    exact hv7
end Go.Proofs.YtebedhnnokmlgaaDoor
