/- Trees: a place, by a size. Conditions: right items, not too many. Trees: a place, by a size: the search itself. Conditions: right items, not too many. Trees: a place, by a size: all of it. Conditions: right items, not too many. Trees: their height; that all nodes are right. Conditions: those of memory and size. -/
import Derived.Test.YtpjmmhbdondknaaDoorTk
namespace Go.Proofs.YtpjmmhbdondknaaDoor
open Go Go.Lift Go.RowKit

abbrev Rch (v bias e : Int) : Prop := v < e ∨ (bias = 0 ∧ e = v)
def szD (s : Su) (dim : Int) : Int := if dim = 3 then s.n else if dim = 0 then s.d0 else if dim = 1 then s.d1 else s.d2
def szA (xs : List It) (dim : Int) (n : Nat) : Int := szD (allS (xs.take n)) dim
/-- The first place whose end reaches, or the end. -/
structure Fnd (xs : List It) (dim v bias : Int) (n : Nat) : Prop where
  le : n ≤ xs.length
  no : ∀ m, m < n → ¬ Rch v bias (szA xs dim (m + 1))
  yes : n < xs.length → Rch v bias (szA xs dim (n + 1))
abbrev Ask (xs : List It) (dim v bias : Int) : Prop := 0 ≤ dim ∧ dim ≤ 3 ∧ 0 ≤ v ∧ v ≤ szD (allS xs) dim ∧ (bias = 0 ∨ bias = 1)
theorem szA_step {xs : List It} (hx : ∀ x ∈ xs, ItOk x) (hn : xs.length ≤ 1000000) (dim : Int) (m : Nat) : szA xs dim m ≤ szA xs dim (m + 1) := by
  cases hm : xs[m]? with
  | none =>
    have : xs.length ≤ m := by simpa using hm
    unfold szA
    rw [List.take_of_length_le this, List.take_of_length_le (by omega)]
    exact Int.le_refl _
  | some x =>
    obtain ⟨h0, h1, h2, h3⟩ := hx x (List.mem_of_getElem? hm)
    have hb := allS_bd (xs := xs.take m) (by rw [List.length_take]; omega) fun y hy => hx y (List.mem_of_mem_take hy)
    have hl : (xs.take m).length ≤ 1000000 := by rw [List.length_take]; omega
    have b0 := hb.d0; have b1 := hb.d1; have b2 := hb.d2
    unfold szA
    rw [take_succ_of hm, allS_snoc]
    unfold szD addS ofI
    dsimp only
    rw [wr_in ⟨by omega, by omega⟩, wr_in ⟨by omega, by omega⟩, wr_in ⟨by omega, by omega⟩]
    split
    · omega
    · split
      · omega
      · split <;> omega
theorem szA_mono {xs : List It} (hx : ∀ x ∈ xs, ItOk x) (hn : xs.length ≤ 1000000) (dim : Int) {m n : Nat} (h : m ≤ n) : szA xs dim m ≤ szA xs dim n := by
  induction n with
  | zero => obtain rfl : m = 0 := by omega
            exact Int.le_refl _
  | succ n ih =>
    by_cases e : m = n + 1
    · subst e; exact Int.le_refl _
    · exact Int.le_trans (ih (by omega)) (szA_step hx hn dim n)
theorem Rch.up {v bias e e' : Int} (h : Rch v bias e) (hle : e ≤ e') : Rch v bias e' := by
  rcases h with h | ⟨h1, h2⟩
  · exact .inl (by omega)
  · by_cases he : e' = v
    · exact .inr ⟨h1, he⟩
    · exact .inl (by omega)

/-- A place among items. -/
def encPl (i : Int) (s : Su) (vis : Int) : List Value := .int .i64 i :: (encS s ++ [.int .i64 vis])
theorem encPl_one (i : Int) (s : Su) (vis : Int) : ∀ u ∈ encPl i s vis, u.oneCell' = true := fun u hu => by
  simp [encPl, encS] at hu; rcases hu with rfl | rfl | rfl | rfl | rfl | rfl | rfl | rfl <;> rfl

/-- Trees with their heights. -/
def TpH (w : World) (v : Value) (xs : List It) (H : Nat) : Prop :=
  (v = .pointer none ∧ xs = [] ∧ H = 0) ∨ ∃ b r, v = .pointer (some ⟨b, 0, none⟩) ∧ Cells w b 0 [r] ∧ ((r = .nilIface ∧ xs = [] ∧ H = 0) ∨ ∃ h k c, r = ndv k ∧ Nd w h k c xs ∧ H = h + 1)
theorem Tp.withH {w : World} {v : Value} {xs : List It} (h : Tp w v xs) : ∃ H, TpH w v xs H := by
  rcases h with ⟨rfl, rfl⟩ | ⟨b, r, rfl, hc, ⟨rfl, rfl⟩ | ⟨h, k, c, rfl, hd⟩⟩
  · exact ⟨0, .inl ⟨rfl, rfl, rfl⟩⟩
  · exact ⟨0, .inr ⟨b, _, rfl, hc, .inl ⟨rfl, rfl, rfl⟩⟩⟩
  · exact ⟨_, .inr ⟨b, _, rfl, hc, .inr ⟨h, k, c, rfl, hd, rfl⟩⟩⟩
theorem TpH.tp {w : World} {v : Value} {xs : List It} {H : Nat} (h : TpH w v xs H) : Tp w v xs := by
  rcases h with ⟨rfl, rfl, rfl⟩ | ⟨b, r, rfl, hc, ⟨rfl, rfl, rfl⟩ | ⟨h, k, c, rfl, hd, rfl⟩⟩
  · exact Tp.nil w
  · exact .inr ⟨b, _, rfl, hc, .inl ⟨rfl, rfl⟩⟩
  · exact .inr ⟨b, _, rfl, hc, .inr ⟨h, k, c, rfl, hd⟩⟩
theorem TpH.ext {w w' : World} {v : Value} {xs : List It} {H : Nat} (h : TpH w v xs H) (e : Ext w w') : TpH w' v xs H := by
  rcases h with ⟨rfl, rfl, rfl⟩ | ⟨b, r, rfl, hc, ⟨rfl, rfl, rfl⟩ | ⟨h, k, c, rfl, hd, rfl⟩⟩
  · exact .inl ⟨rfl, rfl, rfl⟩
  · exact .inr ⟨b, _, rfl, hc.ext e, .inl ⟨rfl, rfl, rfl⟩⟩
  · exact .inr ⟨b, _, rfl, hc.ext e, .inr ⟨h, k, c, rfl, hd.ext e, rfl⟩⟩
theorem topH {w : World} {t : Value} {xs : List It} {H : Nat} (ht : TpH w t xs H) : sCall Tryd.prog S.tree_Tree_top.n [t] w fun u w' => w' = w ∧ ((u = .nilIface ∧ xs = [] ∧ H = 0) ∨ ∃ h k c, u = ndv k ∧ Nd w h k c xs ∧ H = h + 1) := by
  refine S.tree_Tree_top.call ?_
  unfold S.tree_Tree_top
  rcases ht with ⟨rfl, rfl, rfl⟩ | ⟨b, r, rfl, hc, hr⟩
  · rw [sBin_ptr_eq S.tpt_P_tree_Tree]
    exact ⟨rfl, .inl ⟨rfl, rfl, rfl⟩⟩
  · rw [sBin_ptr_eq S.tpt_P_tree_Tree, Option.isNone_some, sIf_false, sNil_ptr, sFldA_ptr S.tfl_tree_Tree_root, sLoad_cell S.tcell_tree_node (hc.fst rfl)]
    exact ⟨rfl, hr⟩

theorem size_spec {w : World} (s : Su) {dim : Int} (h0 : 0 ≤ dim) (h3 : dim ≤ 3) : sCall Tryd.prog S.tree_size.n [.agg (encS s).toArray, .int .i64 dim] w fun u w' => Ext w w' ∧ u = .int .i64 (szD s dim) := by
  refine S.tree_size.call ?_
  unfold S.tree_size
  refine sBox_new (cs := encS s) rfl fun b w1 hb hs1 e1 hk => ?_
  rw [sBin_eql, sIf_dec]
  refine ⟨fun h => ?_, fun h => ?_⟩
  · rw [sFldA_ptr S.tfl_item_Sum_N, sLoad_cell S.tcell_int (hk.cells.at 0 rfl)]
    exact ⟨e1, by unfold szD; rw [if_pos h]⟩
  · obtain ⟨n, rfl⟩ : ∃ n : Nat, dim = n := ⟨dim.toNat, by omega⟩
    rw [sFldA_ptr S.tfl_item_Sum_D, sIdxA_arr (i := n) S.tar_A3_int S.tsz_int (by omega) (by omega) rfl]
    unfold szD
    rw [if_neg h]
    rcases (by omega : n = 0 ∨ n = 1 ∨ n = 2) with rfl | rfl | rfl
    · rw [sLoad_cell S.tcell_int (hk.cells.at 1 rfl)]; exact ⟨e1, rfl⟩
    · rw [sLoad_cell S.tcell_int (hk.cells.at 2 rfl)]; exact ⟨e1, rfl⟩
    · rw [sLoad_cell S.tcell_int (hk.cells.at 3 rfl)]; exact ⟨e1, rfl⟩
theorem rch_spec {w : World} {v bias : Int} {bv bb : Nat} (hv : Blk w bv [.int .i64 v]) (hb : Blk w bb [.int .i64 bias]) (e : Int) :
    sDyn Tryd.prog (.func (.func S.tree_Tree_Find_1.n) #[] #[.pointer (some ⟨bv, 0, none⟩), .pointer (some ⟨bb, 0, none⟩)]) [.int .i64 e] w fun u w' => w' = w ∧ ∃ q : Bool, u = .bool q ∧ (q = true ↔ Rch v bias e) := by
  rw [sDyn_func]
  refine S.tree_Tree_Find_1.call ?_
  unfold S.tree_Tree_Find_1
  rw [sLoad_cell S.tcell_int (hv.cells.fst rfl), sBin_gtr, sIf_dec]
  refine ⟨fun h => ⟨rfl, true, rfl, by simp [Rch, h]⟩, fun h => ?_⟩
  rw [sLoad_cell S.tcell_int (hb.cells.fst rfl), sBin_eql, sIf_dec]
  refine ⟨fun h2 => ?_, fun h2 => ⟨rfl, false, rfl, by simp [Rch, h2]; omega⟩⟩
  rw [sLoad_cell S.tcell_int (hv.cells.fst rfl), sBin_eql]
  exact ⟨rfl, _, rfl, by simp [Rch, h2]; omega⟩
theorem take_add_of {xs ys rest : List It} {m : Nat} (h : xs.drop m = ys ++ rest) (n : Nat) (hn : n ≤ ys.length) : xs.take (m + n) = xs.take m ++ ys.take n := by
  rw [List.take_add, h, List.take_append_of_le_length hn]

section
variable {dim v bias : Int} {xs : List It} {bv bb bp : Nat} {w0 : World}
/-- What is held while a place is looked for. -/
structure Fst (xs : List It) (dim v bias : Int) (bv bb bp : Nat) (w0 w : World) (m : Nat) (vis : Nat) : Prop where
  e : Ext w0 w
  kv : Blk w bv [.int .i64 v]
  kb : Blk w bb [.int .i64 bias]
  kp : Blk w bp (encPl 0 (allS (xs.take m)) vis)
  ne : bv ≠ bp ∧ bb ≠ bp ∧ w0.heap.size ≤ bp
  le : m ≤ xs.length
  no : ∀ j, j < m → ¬ Rch v bias (szA xs dim (j + 1))
theorem Fst.ext {w w' : World} {m vis : Nat} (h : Fst xs dim v bias bv bb bp w0 w m vis) (e : Ext w w') : Fst xs dim v bias bv bb bp w0 w' m vis := ⟨h.e.trans e, h.kv.ext e, h.kb.ext e, h.kp.ext e, h.ne, h.le, h.no⟩
/-- The store of what is before, a part further. -/
theorem Fst.move {w : World} {m vis : Nat} {K : World → Prop} {s : Su} (h : Fst xs dim v bias bv bb bp w0 w m vis) (hx : ∀ x ∈ xs, ItOk x) (hn : xs.length ≤ 1000000) (n : Nat) (hs : s = allS (xs.take (m + n))) (hle : m + n ≤ xs.length) (hr : ¬ Rch v bias (szA xs dim (m + n)))
    (hK : ∀ w', Fst xs dim v bias bv bb bp w0 w' (m + n) vis → w.grownBy w' (some bp) → K w') : sStore Tryd.prog S.T.item_Sum (.pointer (some ⟨bp, 0 + 1, none⟩)) (.agg (encS s).toArray) w K := by
  subst hs
  have hk := h.kp
  refine sStore_blk (vs := encS (allS (xs.take (m + n)))) S.tsz_item_Sum (by decide) hk rfl rfl (by simp [encPl, encS]) (encS_one _) fun w' hs' hg' hk' => ?_
  have ne := h.ne
  refine hK w' ⟨h.e.wr hg' (by rintro _ ⟨⟩; exact ne.2.2), h.kv.wr hg' (by intro e; cases e; exact ne.1 rfl), h.kb.wr hg' (by intro e; cases e; exact ne.2.1 rfl), hk', ne, hle, fun j hj hR => ?_⟩ hg'
  by_cases hjm : j < m
  · exact h.no j hjm hR
  · exact hr (hR.up (szA_mono hx hn dim (by omega)))
end
end Go.Proofs.YtpjmmhbdondknaaDoor
namespace Go.Proofs.YtpjmmhbdondknaaDoor
open Go Go.Lift Go.RowKit
section
variable {dim v bias : Int} {xs : List It} {bv bb bp H : Nat} {w0 : World}

/-- Where the way down ends: behind all, or at a leaf. -/
def FEnd (xs : List It) (dim v bias : Int) (bv bb bp H : Nat) (w0 : World) (us : List Value) (w : World) : Prop :=
  ∃ m vis, Fst xs dim v bias bv bb bp w0 w m vis ∧ vis ≤ H ∧ ((us = [.nilIface] ∧ m = xs.length) ∨ ∃ k c ys rest, us = [ndv k] ∧ Nd w0 0 k c ys ∧ xs.drop m = ys ++ rest ∧ (rest = [] ∨ Rch v bias (szA xs dim (m + ys.length))))
/-- On the way down. -/
def FDown (xs : List It) (dim v bias : Int) (bv bb bp H : Nat) (w0 : World) (n : Nat) (us : List Value) (w : World) : Prop :=
  ∃ m vis, Fst xs dim v bias bv bb bp w0 w m vis ∧ ((us = [.nilIface] ∧ n = 0 ∧ m = xs.length ∧ vis ≤ H) ∨
    ∃ h k c ys rest, us = [ndv k] ∧ n = h + 1 ∧ Nd w0 h k c ys ∧ xs.drop m = ys ++ rest ∧ (rest = [] ∨ Rch v bias (szA xs dim (m + ys.length))) ∧ vis + (h + 1) ≤ H)

theorem down_spec (hx : ∀ x ∈ xs, ItOk x) (hn : xs.length ≤ 1000000) (hd0 : 0 ≤ dim) (hd3 : dim ≤ 3) (hH : H ≤ 1000) {r : Value} {w : World} {n0 : Nat} (h0 : FDown xs dim v bias bv bb bp H w0 n0 [r] w) {M2 : List Value → World → Prop} (hM : ∀ us w, FEnd xs dim v bias bv bb bp H w0 us w → M2 us w) :
    LoopS [r] 1 40 w fun us _ w Nx3 => S.tree_Tree_Find_L3 M2 Nx3 (.int .i64 dim) (.pointer (some ⟨bp, 0, none⟩)) (.func (.func S.tree_Tree_Find_1.n) #[] #[.pointer (some ⟨bv, 0, none⟩), .pointer (some ⟨bb, 0, none⟩)]) (Go.Lift.hd us) w := by
  refine LoopS.ix (FDown xs dim v bias bv bb bp H w0) ⟨_, h0⟩ ?_
  rintro n us vs w ⟨m, vis, hf, hor⟩
  unfold S.tree_Tree_Find_L3
  rcases hor with ⟨rfl, rfl, hm, hvis⟩ | ⟨h, k, c, ys, rest, rfl, rfl, hd, hdr, hrch, hvis⟩
  · rw [Go.Lift.hd, sBin_nilI_ne S.tif_tree_node (.inl rfl)]
    exact hM _ _ ⟨m, vis, hf, hvis, .inl ⟨rfl, hm⟩⟩
  have hE := hf.e
  rw [Go.Lift.hd, sBin_nilI_ne S.tif_tree_node (ndv_or k), ndv_nn, Bool.not_false, sIf_true, sFldA_ptr S.tfl_tree_Place_Visits, sLoad_cell S.tcell_int (hf.kp.cells.at 7 rfl), sBin_add _ _ ⟨by omega, by omega⟩, sFldA_ptr S.tfl_tree_Place_Visits]
  have hkp := hf.kp
  have ne := hf.ne
  refine sStore_blk (vs := [.int .i64 ((vis : Int) + 1)]) S.tsz_int (by decide) hkp rfl rfl (by simp [encPl, encS]) (by simp; rfl) fun w1 hs1 hg1 hk1 => ?_
  have hf1 : Fst xs dim v bias bv bb bp w0 w1 m (vis + 1) := ⟨hE.wr hg1 (by rintro _ ⟨⟩; exact ne.2.2), hf.kv.wr hg1 (by intro e; cases e; exact ne.1 rfl), hf.kb.wr hg1 (by intro e; cases e; exact ne.2.1 rfl), hk1, ne, hf.le, hf.no⟩
  have hyl : m + (ys.length + rest.length) = xs.length := by
    have := congrArg List.length hdr
    rw [List.length_drop, List.length_append] at this
    have := hf.le; omega
  cases h with
  | zero =>
    obtain ⟨bk, s, rfl, k1, k8, rfl, hc, hsl⟩ := nd_leaf hd
    obtain ⟨z, hz⟩ := sAssert_no (P := Tryd.prog) (T := S.T.tree_node) (v := .pointer (some ⟨bk, 0, none⟩)) (B := S.T.P_tree_leaf) S.tcq_P_tree_inner (by decide)
    rw [ndv_t, hz, sExtract_0, sExtract_1, sUn_not, Bool.not_false, sIf_true]
    exact hM _ _ ⟨m, vis + 1, hf1, by omega, .inr ⟨(true, bk), _, ys, rest, rfl, hd, hdr, hrch⟩⟩
  | succ h =>
    obtain ⟨bk, s, ks, rfl, k2', k8, rfl, hc, hsl, rfl, hkd⟩ := nd_inner hd
    have hE1 := hf1.e
    rw [ndv_f, sAssert_yes S.tcq_P_tree_inner, sExtract_0, sExtract_1, sUn_not, Bool.not_true, sIf_false, sNil_ptr, sFldA_ptr S.tfl_tree_inner_kids, sLoad_cell S.tcell_L_tree_node ((hc.ext hE1).fst rfl), sLen_sl S.tel_L_tree_node (hsl.ext hE1), List.length_map]
    refine LoopS.intro (fun us w2 => ∃ i : Nat, us = [.nilIface, .int .i64 i] ∧ i ≤ ks.length ∧ Fst xs dim v bias bv bb bp w0 w2 (m + ((ks.take i).flatMap (·.2.2)).length) (vis + 1) ∧ (0 < i → ¬ Rch v bias (szA xs dim (m + ((ks.take i).flatMap (·.2.2)).length))))
      (fun us _ => match us with | [_, .int _ a] => (ks.length - a).toNat | _ => 0) ⟨0, rfl, by omega, by simpa using hf1, by omega⟩ ?_
    rintro us vs w2 ⟨i, rfl, hi, hf2, hnr⟩
    unfold S.tree_Tree_Find_L4
    have hE2 := hf2.e
    rw [Go.Lift.hd, Go.Lift.tl, Go.Lift.hd, sBin_lss, sIf_dec]
    refine ⟨fun hlt => ?_, fun hge => ?_⟩
    · obtain ⟨t, ht⟩ : ∃ t, ks[i]? = some t := ⟨_, List.getElem?_eq_getElem (by omega)⟩
      have hmem := List.mem_of_getElem? ht
      obtain ⟨q4, hkt⟩ := hkd t hmem
      have htl := flat_mem_len hmem
      have hfl : (ks.take i).flatMap (·.2.2) ++ (t.2.2 ++ (ks.drop (i + 1)).flatMap (·.2.2)) = ks.flatMap (·.2.2) := by
        conv => rhs; rw [← List.take_append_drop i ks, drop_cons_of ht]
        rw [List.flatMap_append, List.flatMap_cons]
      have hln := congrArg List.length hfl
      rw [List.length_append, List.length_append] at hln
      have htk : ((ks.take (i + 1)).flatMap (·.2.2)).length = ((ks.take i).flatMap (·.2.2)).length + t.2.2.length := by
        rw [take_succ_of ht, List.flatMap_append, List.flatMap_singleton, List.length_append]
      have hdr2 : xs.drop (m + ((ks.take i).flatMap (·.2.2)).length) = t.2.2 ++ ((ks.drop (i + 1)).flatMap (·.2.2) ++ rest) := by
        rw [← List.drop_drop, hdr, ← hfl, List.append_assoc, List.append_assoc, List.drop_left]
      obtain ⟨b1, o1, hel1, hc1⟩ := (hsl.ext hE2).el (kids_at ht)
      rw [sIdxA_sl S.tel_L_tree_node S.tsz_tree_node (by omega) (hsl.ext hE2) (kids_at ht) rfl, hel1, sLoad_cell S.tcell_tree_node (hc1.fst rfl)]
      generalize hmm : m + ((ks.take i).flatMap (·.2.2)).length = mm at hf2 hnr hdr2
      have hsum : addS (allS (xs.take mm)) (allS t.2.2) = allS (xs.take (mm + t.2.2.length)) := by
        rw [take_add_of hdr2 _ (Nat.le_refl _), List.take_length, allS_append]
      have hmn := hf2.le
      have hadd : AddB (allS (xs.take mm)) (allS t.2.2) := AddB.all (by rw [List.length_take]; omega) (by omega)
      refine JoinS.intro (fun us w' => Ext w2 w' ∧ ∃ bs, us = [.pointer (some ⟨bs, 0, none⟩)] ∧ Blk w' bs (encS (allS (xs.take (mm + t.2.2.length)))) ∧ bs ≠ bp) ?_ ?_
      · have hbp := hf2.kp.lt
        refine DrawS.ext ?_
        have E : Ext w2 w2.drew := (Ext.refl w2).drew
        have hvar : ∀ (bs : Nat) w3 w4, Ext w2 w3 → bs = w3.heap.size → Ext w3 w4 → Blk w4 bs (encS zeroS) →
            sStore Tryd.prog S.T.item_Sum (.pointer (some ⟨bs, 0, none⟩)) (.agg (encS (addS (allS (xs.take mm)) (allS t.2.2))).toArray) w4 fun w' => Ext w2 w' ∧ ∃ bs', [Value.pointer (some ⟨bs, 0, none⟩)] = [.pointer (some ⟨bs', 0, none⟩)] ∧ Blk w' bs' (encS (allS (xs.take (mm + t.2.2.length)))) ∧ bs' ≠ bp := by
          intro bs w3 w4 e3 hbs e4 hk4
          have := e3.size
          refine sStore_blk (vs := encS (addS (allS (xs.take mm)) (allS t.2.2))) S.tsz_item_Sum (by decide) hk4 rfl rfl (by simp [encS]) (encS_one _) fun w' hs' hg' hk' => ?_
          exact ⟨(e3.trans e4).wr hg' (by rintro _ ⟨⟩; omega), bs, rfl, by rw [← hsum]; exact hk', by omega⟩
        rw [stillS_eq (fun w1 h1 K => sFldA_ptr S.tfl_tree_Place_Before) E, stillS_agg (cs := encS (allS (xs.take mm))) S.tagg_item_Sum (hf2.kp.cells.sub 1 6) rfl E]
        refine ⟨?_, ?_⟩
        · refine (sumOf_spec ((hkt.ext hE2).ext E)).mono ?_
          rintro u w3 ⟨e3, rfl⟩
          have F3 := E.trans e3
          refine ⟨F3, ?_, ?_⟩
          · refine (add_spec hadd).mono ?_
            rintro u w4 ⟨e4, rfl⟩
            have F4 := F3.trans e4
            refine ⟨F4, ?_⟩
            refine sAlloc_new S.tze_item_Sum fun bs w5 hbs hs5 e5 hk5 => ⟨F4.trans e5, ?_⟩
            exact hvar bs w4 w5 F4 hbs e5 hk5
          · refine sAlloc_new S.tze_item_Sum fun bs w5 hbs hs5 e5 hk5 => ⟨F3.trans e5, ?_⟩
            refine (add_spec hadd).mono ?_
            rintro u w4 ⟨e4, rfl⟩
            exact hvar bs w3 w4 F3 hbs (e5.trans e4) (hk5.ext e4)
        · refine sAlloc_new S.tze_item_Sum fun bs w5 hbs hs5 e5 hk5 => ⟨E.trans e5, ?_⟩
          refine (sumOf_spec (((hkt.ext hE2).ext E).ext e5)).mono ?_
          rintro u w3 ⟨e3, rfl⟩
          refine ⟨(E.trans e5).trans e3, ?_⟩
          refine (add_spec hadd).mono ?_
          rintro u w4 ⟨e4, rfl⟩
          exact hvar bs _ w4 E hbs ((e5.trans e3).trans e4) ((hk5.ext e3).ext e4)
      rintro us vs w3 ⟨e3, bs, rfl, hbs, hbsp⟩
      unfold S.tree_Tree_Find_J5
      have hf3 := hf2.ext e3
      rw [Go.Lift.hd, sLoad_agg (cs := encS (allS (xs.take (mm + t.2.2.length)))) S.tagg_item_Sum hbs.cells rfl]
      refine (size_spec _ hd0 hd3).mono ?_
      rintro u w4 ⟨e4, rfl⟩
      have hf4 := hf3.ext e4
      refine sDyn_mono (fun u w5 h5 => ?_) (rch_spec hf4.kv hf4.kb _)
      obtain ⟨rfl, q, rfl, hq⟩ := h5
      rw [sIf_bool]
      refine ⟨fun hT => ?_, fun hF => ?_⟩
      · exact ⟨h + 1, by omega, mm, vis + 1, hf4, .inr ⟨h, t.1, t.2.1, t.2.2, _, rfl, rfl, hkt, hdr2, .inr (hq.1 hT), by omega⟩⟩
      · have hnr4 : ¬ Rch v bias (szA xs dim (mm + t.2.2.length)) := fun hR => by rw [hq.2 hR] at hF; cases hF
        rw [sLoad_agg (cs := encS (allS (xs.take (mm + t.2.2.length)))) S.tagg_item_Sum ((hbs.ext e4).cells) rfl, sFldA_ptr S.tfl_tree_Place_Before]
        refine hf4.move hx hn t.2.2.length rfl (by omega) hnr4 fun w6 hf6 _ => ?_
        rw [sBin_add _ _ ⟨by omega, by omega⟩]
        refine ⟨⟨i + 1, by simp, by omega, ?_, fun _ => ?_⟩, by simp only []; omega⟩
        · rw [htk, ← Nat.add_assoc, hmm]; exact hf6
        · rw [htk, ← Nat.add_assoc, hmm]; exact hnr4
    · obtain rfl : i = ks.length := by omega
      rw [List.take_length] at hf2 hnr
      refine ⟨0, by omega, _, vis + 1, hf2, .inl ⟨rfl, rfl, ?_, by omega⟩⟩
      rcases hrch with rfl | h'
      · rw [List.length_nil] at hyl; omega
      · exact absurd h' (hnr (by omega))
end
end Go.Proofs.YtpjmmhbdondknaaDoor
namespace Go.Proofs.YtpjmmhbdondknaaDoor
open Go Go.Lift Go.RowKit
section
variable {dim v bias : Int} {xs : List It} {bv bb bp H : Nat} {w0 : World}
/-- The leaf is gone through. -/
theorem leaf_spec (hx : ∀ x ∈ xs, ItOk x) (hn : xs.length ≤ 1000000) (hd0 : 0 ≤ dim) (hd3 : dim ≤ 3) {w : World} {m vis : Nat} {a : Value} {ys rest : List It} (hf : Fst xs dim v bias bv bb bp w0 w m vis) (hsl : Sl w0 a 7 encT ys) (hy1 : 1 ≤ ys.length) (hdr : xs.drop m = ys ++ rest) (hrch : rest = [] ∨ Rch v bias (szA xs dim (m + ys.length))) {M6 : List Value → World → Prop}
    (hM : ∀ n w', Fst xs dim v bias bv bb bp w0 w' n vis → Fnd xs dim v bias n → M6 [] w') :
    LoopS [(.int .i64 0)] 1 18 w fun us _ w Nx7 => S.tree_Tree_Find_L7 M6 Nx7 (.int .i64 dim) (.pointer (some ⟨bp, 0, none⟩)) a (.int .i64 ys.length) (.func (.func S.tree_Tree_Find_1.n) #[] #[.pointer (some ⟨bv, 0, none⟩), .pointer (some ⟨bb, 0, none⟩)]) (Go.Lift.hd us) w := by
  have hyl : m + (ys.length + rest.length) = xs.length := by
    have := congrArg List.length hdr
    rw [List.length_drop, List.length_append] at this
    have := hf.le; omega
  refine LoopS.intro (fun us w1 => ∃ i : Nat, us = [.int .i64 i] ∧ i ≤ ys.length ∧ Fst xs dim v bias bv bb bp w0 w1 (m + i) vis ∧ (0 < i → ¬ Rch v bias (szA xs dim (m + i))))
    (fun us _ => match us with | [.int _ a] => (ys.length - a).toNat | _ => 0) ⟨0, rfl, by omega, hf, by omega⟩ ?_
  rintro us vs w1 ⟨i, rfl, hi, hf1, hnr⟩
  unfold S.tree_Tree_Find_L7
  have hE := hf1.e
  rw [Go.Lift.hd, sBin_lss, sIf_dec]
  refine ⟨fun hlt => ?_, fun hge => ?_⟩
  · obtain ⟨x, hxi⟩ : ∃ x, ys[i]? = some x := ⟨_, List.getElem?_eq_getElem (by omega)⟩
    obtain ⟨b1, o1, hel, hc1⟩ := (hsl.ext hE).el hxi
    have hxm : xs[m + i]? = some x := by
      have : (xs.drop m)[i]? = some x := by rw [hdr, List.getElem?_append_left (by omega), hxi]
      rwa [List.getElem?_drop] at this
    rw [sIdxA_sl S.tel_L_item_Item S.tsz_item_Item (by omega) (hsl.ext hE) hxi rfl, hel, sLoad_agg S.tagg_item_Item hc1 rfl]
    refine sVar S.tze_item_Item S.tsz_item_Item (by decide) rfl rfl (encT_ok.one x) fun b2 w2 hb2 hs2 e2 hk2 => ?_
    have hf2 := hf1.ext e2
    have hsum : addS (allS (xs.take (m + i))) (ofI x) = allS (xs.take (m + i + 1)) := by rw [take_succ_of hxm, allS_snoc]
    have hadd : AddB (allS (xs.take (m + i))) (ofI x) := AddB.one (by rw [List.length_take]; omega) x
    refine JoinS.intro (fun us w' => Ext w2 w' ∧ ∃ bs, us = [.pointer (some ⟨bs, 0, none⟩)] ∧ Blk w' bs (encS (allS (xs.take (m + i + 1)))) ∧ bs ≠ bp) ?_ ?_
    · have hbp := hf2.kp.lt
      refine DrawS.ext ?_
      have E : Ext w2 w2.drew := (Ext.refl w2).drew
      have hvar : ∀ (bs : Nat) w3 w4, Ext w2 w3 → bs = w3.heap.size → Ext w3 w4 → Blk w4 bs (encS zeroS) →
          sStore Tryd.prog S.T.item_Sum (.pointer (some ⟨bs, 0, none⟩)) (.agg (encS (addS (allS (xs.take (m + i))) (ofI x))).toArray) w4 fun w' => Ext w2 w' ∧ ∃ bs', [Value.pointer (some ⟨bs, 0, none⟩)] = [.pointer (some ⟨bs', 0, none⟩)] ∧ Blk w' bs' (encS (allS (xs.take (m + i + 1)))) ∧ bs' ≠ bp := by
        intro bs w3 w4 e3 hbs e4 hk4
        have := e3.size
        refine sStore_blk (vs := encS (addS (allS (xs.take (m + i))) (ofI x))) S.tsz_item_Sum (by decide) hk4 rfl rfl (by simp [encS]) (encS_one _) fun w' hs' hg' hk' => ?_
        exact ⟨(e3.trans e4).wr hg' (by rintro _ ⟨⟩; omega), bs, rfl, by rw [← hsum]; exact hk', by omega⟩
      rw [stillS_eq (fun w1 h1 K => sFldA_ptr S.tfl_tree_Place_Before) E, stillS_agg (cs := encS (allS (xs.take (m + i)))) S.tagg_item_Sum (hf2.kp.cells.sub 1 6) rfl E, stillS_agg (cs := encT x) S.tagg_item_Item hk2.cells rfl E]
      refine ⟨?_, ?_⟩
      · refine (of_spec x).mono ?_
        rintro u w3 ⟨e3, rfl⟩
        have F3 := E.trans e3
        refine ⟨F3, ?_, ?_⟩
        · refine (add_spec hadd).mono ?_
          rintro u w4 ⟨e4, rfl⟩
          have F4 := F3.trans e4
          refine ⟨F4, ?_⟩
          refine sAlloc_new S.tze_item_Sum fun bs w5 hbs hs5 e5 hk5 => ⟨F4.trans e5, ?_⟩
          exact hvar bs w4 w5 F4 hbs e5 hk5
        · refine sAlloc_new S.tze_item_Sum fun bs w5 hbs hs5 e5 hk5 => ⟨F3.trans e5, ?_⟩
          refine (add_spec hadd).mono ?_
          rintro u w4 ⟨e4, rfl⟩
          exact hvar bs w3 w4 F3 hbs (e5.trans e4) (hk5.ext e4)
      · refine sAlloc_new S.tze_item_Sum fun bs w5 hbs hs5 e5 hk5 => ⟨E.trans e5, ?_⟩
        refine (of_spec x).mono ?_
        rintro u w3 ⟨e3, rfl⟩
        refine ⟨(E.trans e5).trans e3, ?_⟩
        refine (add_spec hadd).mono ?_
        rintro u w4 ⟨e4, rfl⟩
        exact hvar bs _ w4 E hbs ((e5.trans e3).trans e4) ((hk5.ext e3).ext e4)
    rintro us vs w3 ⟨e3, bs, rfl, hbs, hbsp⟩
    unfold S.tree_Tree_Find_J8
    have hf3 := hf2.ext e3
    rw [Go.Lift.hd, sLoad_agg (cs := encS (allS (xs.take (m + i + 1)))) S.tagg_item_Sum hbs.cells rfl]
    refine (size_spec _ hd0 hd3).mono ?_
    rintro u w4 ⟨e4, rfl⟩
    have hf4 := hf3.ext e4
    refine sDyn_mono (fun u w5 h5 => ?_) (rch_spec hf4.kv hf4.kb _)
    obtain ⟨rfl, q, rfl, hq⟩ := h5
    rw [sIf_bool]
    refine ⟨fun hT => ?_, fun hF => ?_⟩
    · exact hM (m + i) _ hf4 ⟨hf4.le, hf4.no, fun _ => hq.1 hT⟩
    · have hnr4 : ¬ Rch v bias (szA xs dim (m + i + 1)) := fun hR => by rw [hq.2 hR] at hF; cases hF
      rw [sLoad_agg (cs := encS (allS (xs.take (m + i + 1)))) S.tagg_item_Sum ((hbs.ext e4).cells) rfl, sFldA_ptr S.tfl_tree_Place_Before]
      refine hf4.move hx hn 1 rfl (by omega) hnr4 fun w6 hf6 _ => ?_
      rw [sBin_add _ _ ⟨by omega, by omega⟩]
      exact ⟨⟨i + 1, by simp, by omega, hf6, fun _ => hnr4⟩, by simp only []; omega⟩
  · obtain rfl : i = ys.length := by omega
    have hend : m + ys.length = xs.length := by
      rcases hrch with rfl | h'
      · rw [List.length_nil] at hyl; omega
      · exact absurd h' (hnr (by omega))
    exact hM _ _ hf1 ⟨hf1.le, hf1.no, fun h => by omega⟩
end

theorem topH_at {w : World} {t : Value} {xs : List It} {H : Nat} (ht : TpH w t xs H) : ∃ r, ((r = .nilIface ∧ xs = [] ∧ H = 0) ∨ ∃ h k c, r = ndv k ∧ Nd w h k c xs ∧ H = h + 1) ∧ ∀ w', Ext w w' → sCall Tryd.prog S.tree_Tree_top.n [t] w' fun u w'' => w'' = w' ∧ u = r := by
  rcases ht with ⟨rfl, rfl, rfl⟩ | ⟨b, r, rfl, hc, hr⟩
  · refine ⟨.nilIface, .inl ⟨rfl, rfl, rfl⟩, fun w' e => S.tree_Tree_top.call ?_⟩
    unfold S.tree_Tree_top
    rw [sBin_ptr_eq S.tpt_P_tree_Tree]
    exact ⟨rfl, rfl⟩
  · refine ⟨r, hr, fun w' e => S.tree_Tree_top.call ?_⟩
    unfold S.tree_Tree_top
    rw [sBin_ptr_eq S.tpt_P_tree_Tree, Option.isNone_some, sIf_false, sNil_ptr, sFldA_ptr S.tfl_tree_Tree_root, sLoad_cell S.tcell_tree_node ((hc.ext e).fst rfl)]
    exact ⟨rfl, rfl⟩
theorem tfind_spec {w : World} {t : Value} {xs : List It} {H : Nat} {dim v bias : Int} (ht : TpH w t xs H) (hx : ∀ x ∈ xs, ItOk x) (hn : xs.length ≤ 1000000) :
    sCall Tryd.prog S.tree_Tree_Find.n [t, .int .i64 dim, .int .i64 v, .int .i64 bias] w fun u w' => Ext w w' ∧ ((¬ Ask xs dim v bias ∧ u = .tuple #[.agg (encPl 0 zeroS 0).toArray, .int .i64 1]) ∨
      (Ask xs dim v bias ∧ ∃ n vis : Nat, Fnd xs dim v bias n ∧ vis ≤ H ∧ u = .tuple #[.agg (encPl n (allS (xs.take n)) vis).toArray, .int .i64 0])) := by
  refine S.tree_Tree_Find.call ?_
  unfold S.tree_Tree_Find
  have hH : H ≤ 1000 := by
    rcases ht with ⟨_, _, rfl⟩ | ⟨b, r, _, _, ⟨_, _, rfl⟩ | ⟨h, k, c, _, hd, rfl⟩⟩
    · omega
    · omega
    · have := hd.high hn; omega
  refine sBox_new (cs := [.int .i64 v]) rfl fun bv w1 hbv hs1 e1 hkv => ?_
  refine sBox_new (cs := [.int .i64 bias]) rfl fun bb w2 hbb hs2 e2 hkb => ?_
  refine sAlloc_new S.tze_tree_Place fun b8 w3 hb8 hs3 e3 hk8 => ?_
  have E3 := (e1.trans e2).trans e3
  refine (tsum_spec (ht.tp.ext E3)).mono ?_
  rintro u w4 ⟨e4, rfl⟩
  refine sVar (vs := encS (allS xs)) S.tze_item_Sum S.tsz_item_Sum (by decide) rfl rfl (encS_one _) fun b10 w5 hb10 hs5 e5 hk10 => ?_
  have s4 := e4.size
  have E5 := (E3.trans e4).trans e5
  have kv := ((((hkv.ext e2).ext e3).ext e4).ext e5)
  have kb := (((hkb.ext e3).ext e4).ext e5)
  have k8 := ((hk8.ext e4).ext e5)
  refine JoinS.intro (fun us w' => Ext w5 w' ∧ ∃ q : Bool, us = [.bool q] ∧ (q = true ↔ ¬ Ask xs dim v bias)) ?_ ?_
  · refine DrawS.ext ?_
    have E : Ext w5 w5.drew := (Ext.refl w5).drew
    rw [stillS_eq (fun w1 h1 K => sBin_lss _ _) E, sIf_dec]
    refine ⟨fun h => ⟨E, true, rfl, by simp [Ask]; omega⟩, fun h1 => ?_⟩
    rw [stillS_eq (fun w1 h1 K => sBin_gtr _ _) E, sIf_dec]
    refine ⟨fun h => ⟨E, true, rfl, by simp [Ask]; omega⟩, fun h2 => ?_⟩
    rw [stillS_cell S.tcell_int (kv.cells.fst rfl) E, stillS_eq (fun w1 h1 K => sBin_lss _ _) E, sIf_dec]
    refine ⟨fun h => ⟨E, true, rfl, by simp [Ask]; omega⟩, fun h3 => ?_⟩
    rw [stillS_cell S.tcell_int (kv.cells.fst rfl) E, stillS_agg (cs := encS (allS xs)) S.tagg_item_Sum hk10.cells rfl E]
    refine (size_spec _ (by omega) (by omega)).mono ?_
    rintro u w6 ⟨e6, rfl⟩
    have F6 := E.trans e6
    refine ⟨F6, ?_⟩
    rw [stillS_eq (fun w1 h1 K => sBin_gtr _ _) F6, sIf_dec]
    refine ⟨fun h => ⟨F6, true, rfl, by simp [Ask]; omega⟩, fun h4 => ?_⟩
    rw [stillS_cell S.tcell_int (kb.cells.fst rfl) F6, stillS_eq (fun w1 h1 K => sBin_neq _ _) F6, sIf_not]
    refine ⟨fun h5 => ?_, fun h5 => ⟨F6, false, rfl, by simp [Ask]; omega⟩⟩
    rw [stillS_cell S.tcell_int (kb.cells.fst rfl) F6, stillS_eq (fun w1 h1 K => sBin_neq _ _) F6]
    exact ⟨F6, _, rfl, by simp [Ask]; omega⟩
  rintro us vs w6 ⟨e6, q, rfl, hq⟩
  unfold S.tree_Tree_Find_J1
  have E6 := E5.trans e6
  rw [Go.Lift.hd, sIf_bool]
  refine ⟨fun hT => ?_, fun hF => ?_⟩
  · rw [sBuild_of (cs := encPl 0 zeroS 0) (lp := []) S.tze_tree_Place S.tpl_tree_Place rfl rfl]
    refine sStore_blk S.tsz_tree_Place (by decide) (k8.ext e6) (vs := encPl 0 zeroS 0) rfl rfl (by simp) (encPl_one _ _ _) fun w7 hs7 hg7 hk7 => ?_
    rw [sLoad_agg (cs := encPl 0 zeroS 0) S.tagg_tree_Place hk7.cells rfl]
    have s12 := (e1.trans e2).size
    exact ⟨rfl, E6.wr hg7 (by rintro _ ⟨⟩; omega), .inl ⟨hq.1 hT, rfl⟩⟩
  have hask : Ask xs dim v bias := Classical.byContradiction fun h => by rw [hq.2 h] at hF; cases hF
  rw [sFunc_mk, sBuild_of (cs := encPl 0 zeroS 0) (lp := []) S.tze_tree_Place S.tpl_tree_Place rfl rfl]
  refine sVar (vs := encPl 0 zeroS 0) S.tze_tree_Place S.tsz_tree_Place (by decide) rfl rfl (encPl_one _ _ _) fun bp w7 hbp hs7 e7 hkp => ?_
  have s6 := e6.size
  have s1' := e1.size
  obtain ⟨r, hr, htop⟩ := topH_at (ht.ext E6)
  refine (htop w7 e7).mono ?_
  rintro u w8 ⟨rfl, rfl⟩
  have hf0 : Fst xs dim v bias bv bb bp w6 w8 0 0 := ⟨e7, (kv.ext e6).ext e7, (kb.ext e6).ext e7, hkp, ⟨by omega, by omega, by omega⟩, by omega, fun j hj => by omega⟩
  refine JoinS.intro (FEnd xs dim v bias bv bb bp H w6) ?_ ?_
  · have h0 : ∃ n0, FDown xs dim v bias bv bb bp H w6 n0 [u] w8 := by
      rcases hr with ⟨rfl, hx0, rfl⟩ | ⟨h, k, c, rfl, hd, rfl⟩
      · exact ⟨0, 0, 0, hf0, .inl ⟨rfl, rfl, by rw [hx0]; rfl, by omega⟩⟩
      · exact ⟨h + 1, 0, 0, hf0, .inr ⟨h, k, c, xs, [], rfl, rfl, hd, by simp, .inl rfl, by omega⟩⟩
    obtain ⟨n0, h0⟩ := h0
    exact down_spec hx hn hask.1 hask.2.1 hH h0 fun us w h => h
  rintro us vs w9 ⟨m, vis, hf, hvis, hor⟩
  unfold S.tree_Tree_Find_J2
  refine JoinS.intro (fun us w' => ∃ n : Nat, Fst xs dim v bias bv bb bp w6 w' n vis ∧ Fnd xs dim v bias n) ?_ ?_
  · rcases hor with ⟨rfl, hm⟩ | ⟨k, c, ys, rest, rfl, hd, hdr, hrch⟩
    · obtain ⟨z, hz⟩ := sAssert_nil (P := Tryd.prog) (T := S.T.tree_node) S.tcq_P_tree_leaf
      rw [Go.Lift.hd, hz, sExtract_0, sExtract_1, sIf_false]
      exact ⟨m, hf, hf.le, hf.no, fun h => by omega⟩
    · obtain ⟨bk, s, rfl, k1, k8', rfl, hc, hsl⟩ := nd_leaf hd
      have hE9 := hf.e
      rw [Go.Lift.hd, ndv_t, sAssert_yes S.tcq_P_tree_leaf, sExtract_0, sExtract_1, sIf_true, sNil_ptr, sFldA_ptr S.tfl_tree_leaf_items, sLoad_cell S.tcell_L_item_Item ((hc.ext hE9).fst rfl), sLen_sl S.tel_L_item_Item (hsl.ext hE9)]
      exact leaf_spec hx hn hask.1 hask.2.1 hf hsl k1 hdr hrch fun n w' h1 h2 => ⟨n, h1, h2⟩
  rintro us vs w10 ⟨n, hf, hfn⟩
  unfold S.tree_Tree_Find_J6
  have hE := hf.e
  have ne := hf.ne
  have hN : (allS (xs.take n)).n = n := by rw [allS_n, List.length_take]; have := hf.le; omega
  rw [sFldA_ptr S.tfl_tree_Place_Before, sFldA_ptr S.tfl_item_Sum_N, sLoad_cell S.tcell_int (hf.kp.cells.at 1 rfl), sFldA_ptr S.tfl_tree_Place_Index]
  have hkp := hf.kp
  refine sStore_blk (vs := [.int .i64 (allS (xs.take n)).n]) S.tsz_int (by decide) hkp rfl rfl (by simp [encPl, encS]) (by simp; rfl) fun w11 hs11 hg11 hk11 => ?_
  have hk11 : Blk w11 bp (encPl (allS (xs.take n)).n (allS (xs.take n)) vis) := hk11
  rw [sLoad_agg (cs := encPl (allS (xs.take n)).n (allS (xs.take n)) vis) S.tagg_tree_Place hk11.cells rfl]
  have k8' := ((k8.ext e6).ext hE).wr hg11 (by intro e; cases e; omega)
  have E11 : Ext w w11 := (E6.trans hE).wr hg11 (by rintro _ ⟨⟩; have := E6.size; omega)
  refine sStore_blk S.tsz_tree_Place (by decide) k8' (vs := encPl (allS (xs.take n)).n (allS (xs.take n)) vis) rfl rfl (by simp) (encPl_one _ _ _) fun w12 hs12 hg12 hk12 => ?_
  rw [sLoad_agg (cs := encPl (allS (xs.take n)).n (allS (xs.take n)) vis) S.tagg_tree_Place hk12.cells rfl, hN]
  have s12 := (e1.trans e2).size
  exact ⟨rfl, E11.wr hg12 (by rintro _ ⟨⟩; omega), .inr ⟨hask, n, vis, hfn, hvis, rfl⟩⟩
end Go.Proofs.YtpjmmhbdondknaaDoor
namespace Go.Proofs.YtpjmmhbdondknaaDoor
open Go Go.Lift Go.RowKit

theorem tallH {w : World} {t : Value} {xs : List It} {H : Nat} (ht : TpH w t xs H) (hn : xs.length ≤ 1000000) : (H = 0 ↔ xs = []) ∧ (2 ≤ H → 2 * 4 ^ (H - 1) ≤ xs.length) ∧ H ≤ 11 := by
  have key : ∀ h k c, Nd w h k c xs → (h + 1 = 0 ↔ xs = []) ∧ (2 ≤ h + 1 → 2 * 4 ^ (h + 1 - 1) ≤ xs.length) ∧ h + 1 ≤ 11 := by
    intro h k c hd
    have hm := hd.many
    have h8 := hd.le8
    have hp : 1 * 4 ^ h ≤ c * 4 ^ h := Nat.mul_le_mul_right _ h8.1
    have hpos : 0 < 4 ^ h := Nat.pow_pos (by decide)
    refine ⟨⟨by omega, fun hx => ?_⟩, fun h2 => ?_, by have := hd.high hn; omega⟩
    · subst hx; simp at hm; omega
    · rw [Nat.add_sub_cancel]
      have hc2 : 2 ≤ c := by
        cases h with
        | zero => omega
        | succ h => exact hd.2.1
      have := Nat.mul_le_mul_right (4 ^ h) hc2
      omega
  rcases ht with ⟨rfl, rfl, rfl⟩ | ⟨b, r, rfl, hc, ⟨rfl, rfl, rfl⟩ | ⟨h, k, c, rfl, hd, rfl⟩⟩
  · simp
  · simp
  · exact key h k c hd

theorem encS_fit (x : Su) : fitB Tryd.prog S.T.dl_item_Sum (encS x) = true := by kernel_rfl
/-- Sums, compared. -/
theorem sums_eq {cx cy : Bool} (x y : Su) : ∃ r : Bool, (r = true ↔ x = y) ∧ (∀ w K, sBin Tryd.prog .eql S.T.item_Sum cx cy (.agg (encS x).toArray) (.agg (encS y).toArray) w K = K (.bool r) w) ∧ ∀ w K, sBin Tryd.prog .neq S.T.item_Sum cx cy (.agg (encS x).toArray) (.agg (encS y).toArray) w K = K (.bool (!r)) w := by
  obtain ⟨r, h1, h2, h3⟩ := sBin_deep (cx := cx) (cy := cy) S.tdq_item_Sum S.taq_item_Sum S.tgq_item_Sum (encS_fit x) (encS_fit y)
  exact ⟨r, h1.trans ⟨encS_inj, fun h => h ▸ rfl⟩, h2, h3⟩

end Go.Proofs.YtpjmmhbdondknaaDoor
