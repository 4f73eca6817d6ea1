/- Trees: a place, by a size. Conditions: right items, not too many. Trees: a place, by a size: the search itself. Conditions: right items, not too many. Trees: a place, by a size: all of it. Conditions: right items, not too many. Trees: their height; that all nodes are right. Conditions: those of memory and size. -/
import Derived.Test.YthpngnngoamlpaaDoorTk
namespace Go.Proofs.YthpngnngoamlpaaDoor
open Go Go.Lift Go.RowKit

abbrev Rch (v bias e : Int) : Prop := v < e ∨ (bias = 0 ∧ e = v)
def szD (s : Su) (dim : Int) : Int := if dim = 3 then s.n else if dim = 0 then s.d0 else if dim = 1 then s.d1 else s.d2
def szA (xs : List It) (dim : Int) (n : Nat) : Int := szD (allS (xs.take n)) dim
/-- The first place whose end reaches, or the end. -/
structure Fnd (xs : List It) (dim v bias : Int) (n : Nat) : Prop where
  le : n ≤ xs.length
  no : ∀ m, m < n → ¬ Rch v bias (szA xs dim (m + 1))
  yes : n < xs.length → Rch v bias (szA xs dim (n + 1))
abbrev Ask (xs : List It) (dim v bias : Int) : Prop := 0 ≤ dim ∧ dim ≤ 3 ∧ 0 ≤ v ∧ v ≤ szD (allS xs) dim ∧ (bias = 0 ∨ bias = 1)
theorem szA_step {xs : List It} (hx : ∀ x ∈ xs, ItOk x) (hn : xs.length ≤ 1000000) (dim : Int) (m : Nat) : szA xs dim m ≤ szA xs dim (m + 1) := by
  cases hm : xs[m]? with
  | none =>
    have : xs.length ≤ m := by simpa using hm
    unfold szA
    rw [List.take_of_length_le this, List.take_of_length_le (by omega)]
    exact Int.le_refl _
  | some x =>
    obtain ⟨h0, h1, h2, h3⟩ := hx x (List.mem_of_getElem? hm)
    have hb := allS_bd (xs := xs.take m) (by rw [List.length_take]; omega) fun y hy => hx y (List.mem_of_mem_take hy)
    have hl : (xs.take m).length ≤ 1000000 := by rw [List.length_take]; omega
    have b0 := hb.d0; have b1 := hb.d1; have b2 := hb.d2
    unfold szA
    rw [take_succ_of hm, allS_snoc]
    unfold szD addS ofI
    dsimp only
    rw [wr_in ⟨by omega, by omega⟩, wr_in ⟨by omega, by omega⟩, wr_in ⟨by omega, by omega⟩]
    split
    · omega
    · split
      · omega
      · split <;> omega
theorem szA_mono {xs : List It} (hx : ∀ x ∈ xs, ItOk x) (hn : xs.length ≤ 1000000) (dim : Int) {m n : Nat} (h : m ≤ n) : szA xs dim m ≤ szA xs dim n := by
  induction n with
  | zero => obtain rfl : m = 0 := by omega
            exact Int.le_refl _
  | succ n ih =>
    by_cases e : m = n + 1
    · subst e; exact Int.le_refl _
    · exact Int.le_trans (ih (by omega)) (szA_step hx hn dim n)
theorem Rch.up {v bias e e' : Int} (h : Rch v bias e) (hle : e ≤ e') : Rch v bias e' := by
  rcases h with h | ⟨h1, h2⟩
  · exact .inl (by omega)
  · by_cases he : e' = v
    · exact .inr ⟨h1, he⟩
    · exact .inl (by omega)

/-- A place among items. -/
def encPl (i : Int) (s : Su) (vis : Int) : List Value := .int .i64 i :: (encS s ++ [.int .i64 vis])
theorem encPl_one (i : Int) (s : Su) (vis : Int) : ∀ u ∈ encPl i s vis, u.oneCell' = true := fun u hu => by
  simp [encPl, encS] at hu; rcases hu with rfl | rfl | rfl | rfl | rfl | rfl | rfl | rfl <;> rfl

/-- Trees with their heights. -/
def TpH (w : World) (v : Value) (xs : List It) (H : Nat) : Prop :=
  (v = .pointer none ∧ xs = [] ∧ H = 0) ∨ ∃ b r, v = .pointer (some ⟨b, 0, none⟩) ∧ Cells w b 0 [r] ∧ ((r = .nilIface ∧ xs = [] ∧ H = 0) ∨ ∃ h k c, r = ndv k ∧ Nd w h k c xs ∧ H = h + 1)
theorem Tp.withH {w : World} {v : Value} {xs : List It} (h : Tp w v xs) : ∃ H, TpH w v xs H := by
  rcases h with ⟨rfl, rfl⟩ | ⟨b, r, rfl, hc, ⟨rfl, rfl⟩ | ⟨h, k, c, rfl, hd⟩⟩
  · exact ⟨0, .inl ⟨rfl, rfl, rfl⟩⟩
  · exact ⟨0, .inr ⟨b, _, rfl, hc, .inl ⟨rfl, rfl, rfl⟩⟩⟩
  · exact ⟨_, .inr ⟨b, _, rfl, hc, .inr ⟨h, k, c, rfl, hd, rfl⟩⟩⟩
theorem TpH.tp {w : World} {v : Value} {xs : List It} {H : Nat} (h : TpH w v xs H) : Tp w v xs := by
  rcases h with ⟨rfl, rfl, rfl⟩ | ⟨b, r, rfl, hc, ⟨rfl, rfl, rfl⟩ | ⟨h, k, c, rfl, hd, rfl⟩⟩
  · exact Tp.nil w
  · exact .inr ⟨b, _, rfl, hc, .inl ⟨rfl, rfl⟩⟩
  · exact .inr ⟨b, _, rfl, hc, .inr ⟨h, k, c, rfl, hd⟩⟩
theorem TpH.ext {w w' : World} {v : Value} {xs : List It} {H : Nat} (h : TpH w v xs H) (e : Ext w w') : TpH w' v xs H := by
  rcases h with ⟨rfl, rfl, rfl⟩ | ⟨b, r, rfl, hc, ⟨rfl, rfl, rfl⟩ | ⟨h, k, c, rfl, hd, rfl⟩⟩
  · exact .inl ⟨rfl, rfl, rfl⟩
  · exact .inr ⟨b, _, rfl, hc.ext e, .inl ⟨rfl, rfl, rfl⟩⟩
  · exact .inr ⟨b, _, rfl, hc.ext e, .inr ⟨h, k, c, rfl, hd.ext e, rfl⟩⟩
theorem topH {w : World} {t : Value} {xs : List It} {H : Nat} (ht : TpH w t xs H) : sCall Tryd.prog S.tree_Tree_top.n [t] w fun u w' => w' = w ∧ ((u = .nilIface ∧ xs = [] ∧ H = 0) ∨ ∃ h k c, u = ndv k ∧ Nd w h k c xs ∧ H = h + 1) := by
  refine S.tree_Tree_top.call ?_
  unfold S.tree_Tree_top
  rcases ht with ⟨rfl, rfl, rfl⟩ | ⟨b, r, rfl, hc, hr⟩
  · rw [sBin_ptr_eq S.tpt_P_tree_Tree]
    exact ⟨rfl, .inl ⟨rfl, rfl, rfl⟩⟩
  · rw [sBin_ptr_eq S.tpt_P_tree_Tree, Option.isNone_some, sIf_false, sNil_ptr, sFldA_ptr S.tfl_tree_Tree_root, sLoad_cell S.tcell_tree_node (hc.fst rfl)]
    exact ⟨rfl, hr⟩

theorem take_add_of {xs ys rest : List It} {m : Nat} (h : xs.drop m = ys ++ rest) (n : Nat) (hn : n ≤ ys.length) : xs.take (m + n) = xs.take m ++ ys.take n := by
  rw [List.take_add, h, List.take_append_of_le_length hn]

section
variable {dim v bias : Int} {xs : List It} {bv bb bp : Nat} {w0 : World}
/-- What is held while a place is looked for. -/
structure Fst (xs : List It) (dim v bias : Int) (bv bb bp : Nat) (w0 w : World) (m : Nat) (vis : Nat) : Prop where
  e : Ext w0 w
  kv : Blk w bv [.int .i64 v]
  kb : Blk w bb [.int .i64 bias]
  kp : Blk w bp (encPl 0 (allS (xs.take m)) vis)
  ne : bv ≠ bp ∧ bb ≠ bp ∧ w0.heap.size ≤ bp
  le : m ≤ xs.length
  no : ∀ j, j < m → ¬ Rch v bias (szA xs dim (j + 1))
theorem Fst.ext {w w' : World} {m vis : Nat} (h : Fst xs dim v bias bv bb bp w0 w m vis) (e : Ext w w') : Fst xs dim v bias bv bb bp w0 w' m vis := ⟨h.e.trans e, h.kv.ext e, h.kb.ext e, h.kp.ext e, h.ne, h.le, h.no⟩
/-- The store of what is before, a part further. -/
theorem Fst.move {w : World} {m vis : Nat} {K : World → Prop} {s : Su} (h : Fst xs dim v bias bv bb bp w0 w m vis) (hx : ∀ x ∈ xs, ItOk x) (hn : xs.length ≤ 1000000) (n : Nat) (hs : s = allS (xs.take (m + n))) (hle : m + n ≤ xs.length) (hr : ¬ Rch v bias (szA xs dim (m + n)))
    (hK : ∀ w', Fst xs dim v bias bv bb bp w0 w' (m + n) vis → w.grownBy w' (some bp) → K w') : sStore Tryd.prog S.T.item_Sum (.pointer (some ⟨bp, 0 + 1, none⟩)) (.agg (encS s).toArray) w K := by
  subst hs
  have hk := h.kp
  refine sStore_blk (vs := encS (allS (xs.take (m + n)))) S.tsz_item_Sum (by decide) hk rfl rfl (by simp [encPl, encS]) (encS_one _) fun w' hs' hg' hk' => ?_
  have ne := h.ne
  refine hK w' ⟨h.e.wr hg' (by rintro _ ⟨⟩; exact ne.2.2), h.kv.wr hg' (by intro e; cases e; exact ne.1 rfl), h.kb.wr hg' (by intro e; cases e; exact ne.2.1 rfl), hk', ne, hle, fun j hj hR => ?_⟩ hg'
  by_cases hjm : j < m
  · exact h.no j hjm hR
  · exact hr (hR.up (szA_mono hx hn dim (by omega)))
end
end Go.Proofs.YthpngnngoamlpaaDoor
namespace Go.Proofs.YthpngnngoamlpaaDoor
open Go Go.Lift Go.RowKit
section
variable {dim v bias : Int} {xs : List It} {bv bb bp H : Nat} {w0 : World}

/-- Where the way down ends: behind all, or at a leaf. -/
def FEnd (xs : List It) (dim v bias : Int) (bv bb bp H : Nat) (w0 : World) (us : List Value) (w : World) : Prop :=
  ∃ m vis, Fst xs dim v bias bv bb bp w0 w m vis ∧ vis ≤ H ∧ ((us = [.nilIface] ∧ m = xs.length) ∨ ∃ k c ys rest, us = [ndv k] ∧ Nd w0 0 k c ys ∧ xs.drop m = ys ++ rest ∧ (rest = [] ∨ Rch v bias (szA xs dim (m + ys.length))))
/-- On the way down. -/
def FDown (xs : List It) (dim v bias : Int) (bv bb bp H : Nat) (w0 : World) (n : Nat) (us : List Value) (w : World) : Prop :=
  ∃ m vis, Fst xs dim v bias bv bb bp w0 w m vis ∧ ((us = [.nilIface] ∧ n = 0 ∧ m = xs.length ∧ vis ≤ H) ∨
    ∃ h k c ys rest, us = [ndv k] ∧ n = h + 1 ∧ Nd w0 h k c ys ∧ xs.drop m = ys ++ rest ∧ (rest = [] ∨ Rch v bias (szA xs dim (m + ys.length))) ∧ vis + (h + 1) ≤ H)

end
end Go.Proofs.YthpngnngoamlpaaDoor
namespace Go.Proofs.YthpngnngoamlpaaDoor
open Go Go.Lift Go.RowKit
section
variable {dim v bias : Int} {xs : List It} {bv bb bp H : Nat} {w0 : World}
end

theorem topH_at {w : World} {t : Value} {xs : List It} {H : Nat} (ht : TpH w t xs H) : ∃ r, ((r = .nilIface ∧ xs = [] ∧ H = 0) ∨ ∃ h k c, r = ndv k ∧ Nd w h k c xs ∧ H = h + 1) ∧ ∀ w', Ext w w' → sCall Tryd.prog S.tree_Tree_top.n [t] w' fun u w'' => w'' = w' ∧ u = r := by
  rcases ht with ⟨rfl, rfl, rfl⟩ | ⟨b, r, rfl, hc, hr⟩
  · refine ⟨.nilIface, .inl ⟨rfl, rfl, rfl⟩, fun w' e => S.tree_Tree_top.call ?_⟩
    unfold S.tree_Tree_top
    rw [sBin_ptr_eq S.tpt_P_tree_Tree]
    exact ⟨rfl, rfl⟩
  · refine ⟨r, hr, fun w' e => S.tree_Tree_top.call ?_⟩
    unfold S.tree_Tree_top
    rw [sBin_ptr_eq S.tpt_P_tree_Tree, Option.isNone_some, sIf_false, sNil_ptr, sFldA_ptr S.tfl_tree_Tree_root, sLoad_cell S.tcell_tree_node ((hc.ext e).fst rfl)]
    exact ⟨rfl, rfl⟩
end Go.Proofs.YthpngnngoamlpaaDoor
namespace Go.Proofs.YthpngnngoamlpaaDoor
open Go Go.Lift Go.RowKit

theorem tallH {w : World} {t : Value} {xs : List It} {H : Nat} (ht : TpH w t xs H) (hn : xs.length ≤ 1000000) : (H = 0 ↔ xs = []) ∧ (2 ≤ H → 2 * 4 ^ (H - 1) ≤ xs.length) ∧ H ≤ 11 := by
  have key : ∀ h k c, Nd w h k c xs → (h + 1 = 0 ↔ xs = []) ∧ (2 ≤ h + 1 → 2 * 4 ^ (h + 1 - 1) ≤ xs.length) ∧ h + 1 ≤ 11 := by
    intro h k c hd
    have hm := hd.many
    have h8 := hd.le8
    have hp : 1 * 4 ^ h ≤ c * 4 ^ h := Nat.mul_le_mul_right _ h8.1
    have hpos : 0 < 4 ^ h := Nat.pow_pos (by decide)
    refine ⟨⟨by omega, fun hx => ?_⟩, fun h2 => ?_, by have := hd.high hn; omega⟩
    · subst hx; simp at hm; omega
    · rw [Nat.add_sub_cancel]
      have hc2 : 2 ≤ c := by
        cases h with
        | zero => omega
        | succ h => exact hd.2.1
      have := Nat.mul_le_mul_right (4 ^ h) hc2
      omega
  rcases ht with ⟨rfl, rfl, rfl⟩ | ⟨b, r, rfl, hc, ⟨rfl, rfl, rfl⟩ | ⟨h, k, c, rfl, hd, rfl⟩⟩
  · simp
  · simp
  · exact key h k c hd

theorem encS_fit (x : Su) : fitB Tryd.prog S.T.dl_item_Sum (encS x) = true := by kernel_rfl
/-- Sums, compared. -/
theorem sums_eq {cx cy : Bool} (x y : Su) : ∃ r : Bool, (r = true ↔ x = y) ∧ (∀ w K, sBin Tryd.prog .eql S.T.item_Sum cx cy (.agg (encS x).toArray) (.agg (encS y).toArray) w K = K (.bool r) w) ∧ ∀ w K, sBin Tryd.prog .neq S.T.item_Sum cx cy (.agg (encS x).toArray) (.agg (encS y).toArray) w K = K (.bool (!r)) w := by
  obtain ⟨r, h1, h2, h3⟩ := sBin_deep (cx := cx) (cy := cy) S.tdq_item_Sum S.taq_item_Sum S.tgq_item_Sum (encS_fit x) (encS_fit y)
  exact ⟨r, h1.trans ⟨encS_inj, fun h => h ▸ rfl⟩, h2, h3⟩

end Go.Proofs.YthpngnngoamlpaaDoor
