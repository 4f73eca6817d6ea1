/- The document's cells of one part. Conditions: the part and the sizes in memory. -/
import Derived.Test.YtebedhnnokmlgaaDoorC12
namespace Go.Proofs.YtebedhnnokmlgaaDoor
open Go Go.Lift Go.RowKit

/-- What was there is there, but for the block that v owned; v' owns that block, or a new one. -/
def Apt (w w' : World) (v v' : Value) : Prop := w.heap.size ≤ w'.heap.size ∧ (∀ b, b < w.heap.size → v.ownBlock ≠ some b → w'.heap[b]? = w.heap[b]?) ∧ ∀ g, w.heap.size ≤ g ∨ v.ownBlock = some g ∨ v'.ownBlock ≠ some g
theorem Apt.ext {w w' : World} (h : Ext w w') (v : Value) : Apt w w' v v := ⟨h.size, fun b hb _ => h.block b hb, fun g => by
  by_cases hg : v.ownBlock = some g
  · exact .inr (.inl hg)
  · exact .inr (.inr hg)⟩
theorem Apt.trans {w1 w2 w3 : World} {v1 v2 v3 : Value} (h : Apt w1 w2 v1 v2) (g : Apt w2 w3 v2 v3) : Apt w1 w3 v1 v3 := by
  obtain ⟨h1, h2, h3⟩ := h
  obtain ⟨g1, g2, g3⟩ := g
  refine ⟨Nat.le_trans h1 g1, fun b hb hne => ?_, fun k => ?_⟩
  · refine (g2 b (by omega) fun e => ?_).trans (h2 b hb hne)
    rcases h3 b with h | h | h
    · omega
    · exact hne h
    · exact h e
  · rcases g3 k with h | h | h
    · exact .inl (by omega)
    · rcases h3 k with h' | h' | h'
      · exact .inl h'
      · exact .inr (.inl h')
      · exact absurd h h'
    · exact .inr (.inr h)
theorem Apt.blk {w w' : World} {v v' : Value} {b : Nat} {cs : List Value} (h : Apt w w' v v') (hk : Blk w b cs) (hne : v.ownBlock ≠ some b) : Blk w' b cs := by
  obtain ⟨T, hT⟩ := hk
  exact ⟨T, (h.2.1 b (Array.getElem?_eq_some_iff.1 hT).1 hne).trans hT⟩
/-- A slice that is handed in, or of its own block. -/
def XS (w0 w : World) (u : Value) (xs : List Int) (v : Value) : Prop := Sl w0 u 1 (encI .i32) xs ∨ ∃ B, Row w B S.T.int32 1 u (encI .i32) xs ∧ ∀ g, u.ownBlock = some g → v.ownBlock ≠ some g
theorem XS.sl {w0 w : World} {u v : Value} {xs : List Int} (h : XS w0 w u xs v) (e : Ext w0 w) : Sl w u 1 (encI .i32) xs := by
  rcases h with h | ⟨B, h, _⟩
  · exact h.ext e
  · exact h.sl (encI_ok _)
theorem XS.apt {w0 w w' : World} {u v v' : Value} {xs : List Int} (h : XS w0 w u xs v) (a : Apt w w' v v') : XS w0 w' u xs v' := by
  rcases h with h | ⟨B, h, hne⟩
  · exact .inl h
  · refine .inr ⟨B, ?_, fun g hg e => ?_⟩
    · rcases h with h | ⟨g, o, cap, cur, rfl, h1, h2, rest⟩
      · exact .inl h
      · exact .inr ⟨g, o, cap, cur, rfl, h1, (a.2.1 g (Array.getElem?_eq_some_iff.1 h2).1 (hne g rfl)).trans h2, rest⟩
    · rcases a.2.2 g with h' | h' | h'
      · have := (h.lt g hg).2; omega
      · exact hne g hg h'
      · exact h' e
theorem runes_spec2 {w0 w : World} {pv : Pv} {p : Pt} {v : Value} (h : Pv.is w0 pv p) (hv : ∀ g, v.ownBlock = some g → g < w.heap.size) : sCall Tryd.prog S.bodkinref18_runes.n [.agg (encP pv).toArray] w fun u w' => Ext w w' ∧ XS w0 w' u (run p) v := by
  refine S.bodkinref18_runes.call ?_
  unfold S.bodkinref18_runes
  obtain ⟨h1, h2, h3⟩ := h
  refine sBox_new (cs := encP pv) rfl fun b w1 hb hs1 he1 hk1 => ?_
  rw [sFldA_ptr S.tfl_bodkinref18_Part_Kind, sLoad_cell S.tcell_int (hk1.cells.at 0 rfl), sBin_eql, sIf_dec]
  refine ⟨fun h => ?_, fun h => ?_⟩
  · refine sBuildSlice_own (enc := encI .i32) (xs := [8230]) (lp := [(0, [.int .i32 8230])]) S.tel_L_int32 S.tsz_int32 rfl S.tze_int32 (by decide) (by decide) (encI_ok _) rfl rfl fun u w2 _ ho2 he2 _ => ?_
    refine ⟨he1.trans he2, ?_⟩
    rw [show run p = [8230] from if_pos (by omega)]
    exact .inr ⟨_, ho2.row, fun g hg e' => by have := (ho2.lt g hg).1; have := hv g e'; have := he1.size; omega⟩
  · rw [sFldA_ptr S.tfl_bodkinref18_Part_Runes, sLoad_cell S.tcell_L_int32 (hk1.cells.at 2 rfl)]
    refine ⟨he1, ?_⟩
    rw [show run p = p.2.2 from if_neg (by omega)]
    exact .inl h3
end Go.Proofs.YtebedhnnokmlgaaDoor
