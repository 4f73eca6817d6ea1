/- The document's cells, one rune at a time. Conditions: parts in memory; sizes in memory. -/
import Derived.Test.YtebedhnnokmlgaaDoorC11
namespace Go.Proofs.YtebedhnnokmlgaaDoor
open Go Go.Lift Go.RowKit

/-- The cell is pushed, and filled up: from J5 on. -/
theorem refOf_J5 {w0 w : World} {Nx : List Value → World → Prop} {cs : List Ce} {sz : List Int} {c : Ce} {s : Int} {v y : Value} {b2 m k : Nat} (hc : cs[m]? = some c) (hs : sz[m]? = some s) (hsb : 0 ≤ s ∧ s ≤ 16) (hm : m ≤ 20000) (hkk : k ≤ 20000) (hE : Ext w0 w) (hb : b2 < w.heap.size) (hk : Blk w b2 (encC (c.1, c.2.1, widC c s, c.2.2.2))) (hne : v.ownBlock ≠ some b2)
    (hv : Row w w0.heap.size S.T.api_Cell 4 v encC (ofN cs sz m)) (hol : (ofN cs sz m).length ≤ 17 * m) (hy : Sl w0 y 1 (encI .i64) sz)
    (hN : ∀ v' w', Ext w0 w' → (∀ g, w.heap.size ≤ g ∨ v.ownBlock = some g ∨ v'.ownBlock ≠ some g) → (∀ b, b < w.heap.size → v.ownBlock ≠ some b → w'.heap[b]? = w.heap[b]?) → w.heap.size ≤ w'.heap.size → Row w' w0.heap.size S.T.api_Cell 4 v' encC (ofN cs sz (m + 1)) → Nx [v', .int .i64 (m + 1 : Nat), .int .i64 (k + 1 : Nat)] w') :
    S.bodkinref18_Of_J5 Nx (.pointer (some ⟨b2, 0, none⟩)) (.int .i64 m) v y (.int .i64 k) w := by
  unfold S.bodkinref18_Of_J5
  have hwc : 0 ≤ widC c s ∧ widC c s ≤ 16 ∧ (widC c s ≤ s ∨ s = 0) := by unfold widC; split <;> omega
  have kw : ∀ {w' : World}, Blk w' b2 (encC (c.1, c.2.1, widC c s, c.2.2.2)) → w'.cell? ⟨b2, 0 + 2, none⟩ = some (.int .i64 (widC c s)) := fun h => h.cells.at 2 rfl
  rw [sLoad_agg S.tagg_api_Cell hk.cells rfl]
  refine pushC hv hE.size (by omega) fun v1 w1 hv1 hg1 hor1 => ?_
  have hk1 := hk.wr hg1 (fun e => hne e.symm)
  have E1 : Ext w0 w1 := hE.wr hg1 fun g hg => (hv.lt g hg).1
  have hs1 := hg1.size
  have hne1 : v1.ownBlock ≠ some b2 := fun e => by
    rcases hor1 with h | h
    · exact hne (h ▸ e)
    · have := h b2 e; omega
  rw [sFldA_ptr S.tfl_api_Cell_Width, sLoad_cell S.tcell_int (kw hk1)]
  refine LoopS.intro (fun us w2 => Ext w0 w2 ∧ Blk w2 b2 (encC (c.1, c.2.1, widC c s, c.2.2.2)) ∧ w.heap.size ≤ w2.heap.size ∧ (∀ b, b < w.heap.size → v.ownBlock ≠ some b → w2.heap[b]? = w.heap[b]?) ∧ ∃ (j : Nat) (v2 : Value), us = [v2, .int .i64 (widC c s + j)] ∧ j ≤ (s - widC c s).toNat ∧ (∀ g, w.heap.size ≤ g ∨ v.ownBlock = some g ∨ v2.ownBlock ≠ some g) ∧ Row w2 w0.heap.size S.T.api_Cell 4 v2 encC (ofN cs sz m ++ [(c.1, c.2.1, widC c s, c.2.2.2)] ++ List.replicate j (32, 4, 1, c.2.2.2)))
    (fun us _ => match us with | [_, .int _ a] => (20 - a).toNat | _ => 0) ⟨E1, hk1, hs1, fun b h1 h2 => hg1.block b h1 (fun e => h2 e.symm), 0, v1, by simp, Nat.zero_le _, fun g => ?_, by simpa using hv1⟩ ?_
  · rcases hor1 with h | h
    · by_cases hg : v.ownBlock = some g
      · exact .inr (.inl hg)
      · exact .inr (.inr (by rw [h]; exact hg))
    · by_cases hg : v1.ownBlock = some g
      · exact .inl (h g hg)
      · exact .inr (.inr hg)
  rintro us vs w2 ⟨E2, hk2, hs2, hsame, j, v2, rfl, hj, hvo, hv2⟩
  unfold S.bodkinref18_Of_L6
  obtain ⟨b3, o3, hel3, hc3⟩ := (hy.ext E2).el hs
  rw [hd, tl, hd, sIdxA_sl S.tel_L_int S.tsz_int (by omega) (hy.ext E2) hs rfl, hel3, sLoad_cell S.tcell_int (hc3.fst rfl), sBin_lss, sIf_dec]
  refine ⟨fun hlt => ?_, fun hge => ?_⟩
  · have ka : w2.cell? ⟨b2, 0 + 3, none⟩ = some (.int .i64 c.2.2.2) := hk2.cells.at 3 rfl
    rw [sFldA_ptr S.tfl_api_Cell_At, sLoad_cell S.tcell_int ka, bC4]
    refine pushC hv2 E2.size (by simp; omega) fun v3 w3 hv3 hg3 hor3 => ?_
    have hnb : v2.ownBlock ≠ some b2 := by
      rcases hvo b2 with h | h | h
      · omega
      · exact absurd h hne
      · exact h
    have hs3 := hg3.size
    rw [sBin_add _ _ ⟨by omega, by omega⟩]
    refine ⟨⟨E2.wr hg3 (fun g hg => (hv2.lt g hg).1), hk2.wr hg3 (fun e => hnb e.symm), by omega, fun b h1 h2 => ?_, j + 1, v3, by simp; omega, by omega, fun g => ?_, ?_⟩, by simp only []; omega⟩
    · refine (hg3.block b (by omega) fun e => ?_).trans (hsame b h1 h2)
      rcases hvo b with h | h | h
      · omega
      · exact h2 h
      · exact h e.symm
    · rcases hor3 with h | h
      · rw [h]; exact hvo g
      · by_cases hg : v3.ownBlock = some g
        · exact .inl (by have := h g hg; omega)
        · exact .inr (.inr hg)
    · rw [List.replicate_succ', ← List.append_assoc]; exact hv3
  · rw [sBin_add _ _ ⟨by omega, by omega⟩, sBin_add _ _ ⟨by omega, by omega⟩]
    have hjj : j = (s - widC c s).toNat := by omega
    subst hjj
    refine hN v2 w2 E2 hvo hsame hs2 ?_
    rw [ofN_succ hc hs, exp, List.append_cons]
    exact hv2
end Go.Proofs.YtebedhnnokmlgaaDoor
