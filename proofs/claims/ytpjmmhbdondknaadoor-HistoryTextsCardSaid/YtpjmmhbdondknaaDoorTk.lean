/- Topmost nodes: joined, made of a row, split. Conditions: right items, not too many. Trees: the topmost node, the sum, the height; the tree of items. No conditions but that of memory. Trees: a part, two in one, items in the place of others, how high. No conditions but those of memory and size. Trees: all items. No conditions but those of memory and size. Trees: one item, by its number. No conditions but those of memory and size. -/
import Derived.Test.YtpjmmhbdondknaaDoorTm
import Derived.Test.YtpjmmhbdondknaaDoorPu
namespace Go.Proofs.YtpjmmhbdondknaaDoor
open Go Go.Lift Go.RowKit

/-- A topmost node, or none. -/
def Rt (w : World) (v : Value) (xs : List It) : Prop := (v = .nilIface ∧ xs = []) ∨ ∃ h k c, v = ndv k ∧ Nd w h k c xs
theorem Rt.ext {w w' : World} {v : Value} {xs : List It} (h : Rt w v xs) (e : Ext w w') : Rt w' v xs := by
  rcases h with h | ⟨h, k, c, rfl, hd⟩
  · exact .inl h
  · exact .inr ⟨h, k, c, rfl, hd.ext e⟩
theorem Rt.nil (w : World) : Rt w .nilIface [] := .inl ⟨rfl, rfl⟩
theorem Rt.or {w : World} {v : Value} {xs : List It} (h : Rt w v xs) : v = .nilIface ∨ ∃ A x, v = .iface A x := by
  rcases h with ⟨h, _⟩ | ⟨h, k, c, rfl, hd⟩
  · exact .inl h
  · exact ndv_or k
theorem Rt.nn {w : World} {v : Value} {xs : List It} (h : Rt w v xs) (hv : isNilI v = false) : ∃ h k c, v = ndv k ∧ Nd w h k c xs := by
  rcases h with ⟨rfl, _⟩ | h
  · cases hv
  · exact h
theorem Rt.isnil {w : World} {v : Value} {xs : List It} (h : Rt w v xs) (hv : isNilI v = true) : v = .nilIface ∧ xs = [] := by
  rcases h with h | ⟨h, k, c, rfl, hd⟩
  · exact h
  · rw [ndv_nn] at hv; cases hv
theorem Rt.shape {w : World} {v : Value} {xs : List It} (h : Rt w v xs) : v.cells = [v].toArray ∧ v.oneCell' = true := by
  rcases h with ⟨rfl, _⟩ | ⟨h, k, c, rfl, hd⟩
  · exact ⟨rfl, rfl⟩
  · obtain ⟨t, b⟩ := k; cases t <;> exact ⟨rfl, rfl⟩

theorem join_spec {w : World} {a b : Value} {xs ys : List It} (ha : Rt w a xs) (hb : Rt w b ys) (hg : Gd (xs ++ ys)) :
    sCall Tryd.prog S.tree_join.n [a, b] w fun u w' => Ext w w' ∧ Rt w' u (xs ++ ys) := by
  refine S.tree_join.call ?_
  unfold S.tree_join
  rw [sBin_nilI_eq S.tif_tree_node ha.or, sIf_bool]
  refine ⟨fun h1 => ?_, fun h1 => ?_⟩
  · obtain ⟨rfl, rfl⟩ := ha.isnil h1
    exact ⟨Ext.refl w, hb⟩
  rw [sBin_nilI_eq S.tif_tree_node hb.or, sIf_bool]
  refine ⟨fun h2 => ?_, fun h2 => ?_⟩
  · obtain ⟨rfl, rfl⟩ := hb.isnil h2
    rw [List.append_nil]
    exact ⟨Ext.refl w, ha⟩
  obtain ⟨h, k, c, rfl, hd⟩ := ha.nn h1
  obtain ⟨h', k', c', rfl, hd'⟩ := hb.nn h2
  refine (meld_spec _ (Nat.lt_succ_self _) hd hd' hg).mono ?_
  rintro u w1 ⟨e1, m, ⟨ks, s1, s2, s3, s4⟩, _, _⟩
  rw [sLen_sl S.tel_L_tree_node s1, List.length_map, sBin_eql, sIf_dec]
  refine ⟨fun h3 => ?_, fun h3 => ?_⟩
  · obtain ⟨t, rfl⟩ : ∃ t, ks = [t] := by
      rcases s4 with ⟨t, rfl, _⟩ | ⟨t, t', rfl, _⟩
      · exact ⟨t, rfl⟩
      · simp at h3
    obtain ⟨b1, o1, hel1, hc1⟩ := s1.el (i := 0) (x := t.1) rfl
    rw [sIdxA_sl (i := 0) (z := 0) (x := t.1) S.tel_L_tree_node S.tsz_tree_node (by omega) s1 rfl rfl, hel1, sLoad_cell S.tcell_tree_node (hc1.fst rfl)]
    rw [List.flatMap_singleton] at s2
    rw [← s2]
    exact ⟨e1, .inr ⟨_, t.1, t.2.1, rfl, s3 t (by simp)⟩⟩
  · obtain ⟨t, t', rfl, h4, h4'⟩ : ∃ t t' : Kd, ks = [t, t'] ∧ 4 ≤ t.2.1 ∧ 4 ≤ t'.2.1 := by
      rcases s4 with ⟨t, rfl, _⟩ | h
      · simp at h3
      · exact h
    refine (innerOf_spec (h := max h h') s1 (fun q hq => ⟨?_, s3 q hq⟩) (by rw [s2]; exact hg) (by simp) (by simp)).mono ?_
    · simp at hq; rcases hq with rfl | rfl <;> assumption
    rintro u w2 ⟨e2, b, rfl, hd2⟩
    rw [sIface_mk S.tcq_P_tree_inner]
    rw [s2] at hd2
    exact ⟨e1.trans e2, .inr ⟨_, (false, b), _, rfl, hd2⟩⟩

theorem row_spec {w : World} {l : Value} {ks : List Kd} {h : Nat} (hl : Sl w l 1 encK (ks.map (·.1))) (hk : ∀ t ∈ ks, 4 ≤ t.2.1 ∧ Nd w h t.1 t.2.1 t.2.2) (hg : Gd (ks.flatMap (·.2.2))) (h8 : ks.length ≤ 8) :
    sCall Tryd.prog S.tree_row.n [l] w fun u w' => Ext w w' ∧ Rt w' u (ks.flatMap (·.2.2)) := by
  refine S.tree_row.call ?_
  unfold S.tree_row
  rw [sLen_sl S.tel_L_tree_node hl, List.length_map, sBin_eql, sIf_dec]
  refine ⟨fun h0 => ?_, fun h0 => ?_⟩
  · obtain rfl : ks = [] := List.eq_nil_of_length_eq_zero (by omega)
    exact ⟨Ext.refl w, Rt.nil w⟩
  rw [sBin_eql, sIf_dec]
  refine ⟨fun h1 => ?_, fun h1 => ?_⟩
  · obtain ⟨t, rfl⟩ : ∃ t, ks = [t] := by
      match ks, h1 with
      | [t], _ => exact ⟨t, rfl⟩
    obtain ⟨b1, o1, hel1, hc1⟩ := hl.el (i := 0) (x := t.1) rfl
    rw [sIdxA_sl (i := 0) (z := 0) (x := t.1) S.tel_L_tree_node S.tsz_tree_node (by omega) hl rfl rfl, hel1, sLoad_cell S.tcell_tree_node (hc1.fst rfl), List.flatMap_singleton]
    exact ⟨Ext.refl w, .inr ⟨_, t.1, t.2.1, rfl, (hk t (by simp)).2⟩⟩
  · refine (innerOf_spec hl hk hg (by omega) h8).mono ?_
    rintro u w2 ⟨e2, b, rfl, hd2⟩
    rw [sIface_mk S.tcq_P_tree_inner]
    exact ⟨e2, .inr ⟨_, (false, b), _, rfl, hd2⟩⟩

theorem split_nd : ∀ (h : Nat) {w : World} {k : Nv} {c : Nat} {xs : List It} {at_ : Int}, Nd w h k c xs → Gd xs → I64 at_ →
    sCall Tryd.prog S.tree_split.n [ndv k, .int .i64 at_] w fun u w' => Ext w w' ∧ ∃ a b, u = .tuple #[a, b] ∧ Rt w' a (xs.take at_.toNat) ∧ Rt w' b (xs.drop at_.toNat) := by
  intro h
  induction h with
  | zero =>
    intro w k c xs at_ hd hg hat
    refine S.tree_split.call ?_
    unfold S.tree_split
    have hd0 := hd
    obtain ⟨b, s, rfl, k1, k8, rfl, hc, hsl⟩ := nd_leaf hd
    have hcap := sl_cap hsl
    rw [ndv_t, sAssert_yes S.tcq_P_tree_leaf, sExtract_1, sExtract_0, sIf_true, sBin_leq, sIf_dec]
    refine ⟨fun h0 => ?_, fun h0 => ?_⟩
    · rw [sIface_mk S.tcq_P_tree_leaf, show at_.toNat = 0 from by omega]
      exact ⟨Ext.refl w, _, _, rfl, Rt.nil w, .inr ⟨0, (true, b), _, rfl, hd0⟩⟩
    rw [sNil_ptr, sFldA_ptr S.tfl_tree_leaf_items, sLoad_cell S.tcell_L_item_Item (hc.fst rfl), sLen_sl S.tel_L_item_Item hsl, sBin_geq, sIf_dec]
    refine ⟨fun h1 => ?_, fun h1 => ?_⟩
    · rw [sIface_mk S.tcq_P_tree_leaf, List.take_of_length_le (by omega), List.drop_of_length_le (by omega)]
      exact ⟨Ext.refl w, _, _, rfl, .inr ⟨0, (true, b), _, rfl, hd0⟩, Rt.nil w⟩
    obtain ⟨n, rfl⟩ : ∃ n : Nat, at_ = n := ⟨at_.toNat, by omega⟩
    rw [Int.toNat_natCast]
    refine DrawS.ext ?_
    have E : Ext w w.drew := (Ext.refl w).drew
    rw [sNil_ptr, stillS_eq (fun w1 h1 K => sFldA_ptr S.tfl_tree_leaf_items) E, stillS_cell S.tcell_L_item_Item (hc.fst rfl) E,
      stillS_eq (fun w1 h1 K => sSlice_hm S.tel_L_item_Item S.tsz_item_Item (by omega) (hsl.ext h1) rfl rfl (by omega) (by omega)) E,
      sNil_ptr, stillS_eq (fun w1 h1 K => sFldA_ptr S.tfl_tree_leaf_items) E, stillS_cell S.tcell_L_item_Item (hc.fst rfl) E,
      stillS_eq (fun w1 h1 K => sSlice_l S.tel_L_item_Item S.tsz_item_Item (by omega) (hsl.ext h1) rfl (by omega)) E]
    have p1 : Sl w (slV (sv s) 7 0 n n) 7 encT (xs.take n) := by
      simpa using hsl.part (lo := 0) (hi := n) (mx := n) (by omega) (by omega) (by omega) (by omega)
    have p2 : Sl w (slV (sv s) 7 n xs.length (capV (sv s))) 7 encT (xs.drop n) := by
      simpa using hsl.part (lo := n) (hi := xs.length) (mx := capV (sv s)) (by omega) (by omega) (by omega) (by omega)
    have l1 : (xs.take n).length = n := by rw [List.length_take]; omega
    have l2 : (xs.drop n).length = xs.length - n := by rw [List.length_drop]
    refine (leafOf_spec (p1.ext E) (hg.take _) (by omega) (by omega)).mono ?_
    rintro u w1 ⟨e1, b, rfl, hd1⟩
    have F1 := E.trans e1
    refine ⟨F1, ?_⟩
    rw [stillS_eq (fun w1 h1 K => sIface_mk S.tcq_P_tree_leaf) F1]
    refine (leafOf_spec (p2.ext F1) (hg.drop _) (by omega) (by omega)).mono ?_
    rintro u w2 ⟨e2, b', rfl, hd2⟩
    have F2 := F1.trans e2
    refine ⟨F2, ?_⟩
    rw [stillS_eq (fun w1 h1 K => sIface_mk S.tcq_P_tree_leaf) F2]
    exact ⟨F2, _, _, rfl, .inr ⟨0, (true, b), _, rfl, hd1.ext e2⟩, .inr ⟨0, (true, b'), _, rfl, hd2⟩⟩
  | succ h ih =>
    intro w k c xs at_ hd hg hat
    refine S.tree_split.call ?_
    unfold S.tree_split
    have hd0 := hd
    obtain ⟨b, s, ks, rfl, k2, k8, rfl, hc, hsl, rfl, hk⟩ := nd_inner hd
    have hcap := sl_cap hsl
    rw [List.length_map] at hcap
    obtain ⟨z, hz⟩ := sAssert_no (P := Tryd.prog) (T := S.T.tree_node) (v := .pointer (some ⟨b, 0, none⟩)) (B := S.T.P_tree_inner) S.tcq_P_tree_leaf (by decide)
    rw [ndv_f, hz, sExtract_1, sExtract_0, sIf_false, sAssert_yes S.tcq_P_tree_inner, sExtract_1, sExtract_0, sIf_true, sNil_ptr, sFldA_ptr S.tfl_tree_inner_kids, sLoad_cell S.tcell_L_tree_node (hc.fst rfl), sLen_sl S.tel_L_tree_node hsl, List.length_map]
    refine LoopS.intro (fun us w1 => Ext w w1 ∧ ∃ i : Nat, us = [.int .i64 (at_ - ((ks.take i).flatMap (·.2.2)).length), .int .i64 i] ∧ i ≤ ks.length ∧ (0 < i → ((ks.take i).flatMap (·.2.2)).length < at_))
      (fun us _ => match us with | [_, .int _ a] => (ks.length - a).toNat | _ => 0) ⟨Ext.refl w, 0, by simp, by omega, by omega⟩ ?_
    rintro us vs w1 ⟨e1, i, rfl, hi, hat2⟩
    unfold S.tree_split_L1
    rw [Go.Lift.hd, Go.Lift.tl, Go.Lift.hd, sBin_lss, sIf_dec]
    refine ⟨fun hlt => ?_, fun hge => ?_⟩
    · obtain ⟨t, ht⟩ : ∃ t, ks[i]? = some t := ⟨_, List.getElem?_eq_getElem (by omega)⟩
      have hm := List.mem_of_getElem? ht
      obtain ⟨q4, hkt⟩ := hk t hm
      have hgt := hg.kid hm
      have hgn := hg.n
      have hfl : (ks.take i).flatMap (·.2.2) ++ (t.2.2 ++ (ks.drop (i + 1)).flatMap (·.2.2)) = ks.flatMap (·.2.2) := by
        conv => rhs; rw [← List.take_append_drop i ks, drop_cons_of ht]
        rw [List.flatMap_append, List.flatMap_cons]
      have hln := congrArg List.length hfl
      rw [List.length_append, List.length_append] at hln
      have hP : (((ks.take i).flatMap (·.2.2)).length : Int) < at_ ∨ ((ks.take i).flatMap (·.2.2)).length = 0 := by
        rcases Nat.eq_zero_or_pos i with h0 | h0
        · subst h0; exact .inr rfl
        · exact .inl (hat2 h0)
      obtain ⟨b1, o1, hel1, hc1⟩ := (hsl.ext e1).el (kids_at ht)
      rw [sIdxA_sl S.tel_L_tree_node S.tsz_tree_node (by omega) (hsl.ext e1) (kids_at ht) rfl, hel1, sLoad_cell S.tcell_tree_node (hc1.fst rfl)]
      refine (sumOf_spec (hkt.ext e1)).mono ?_
      rintro u w2 ⟨e2, rfl⟩
      have E2 := e1.trans e2
      have hN : (allS t.2.2).n = t.2.2.length := allS_n _
      rw [sFld_cell S.tfd_item_Sum_N S.tcell_int (v := .int .i64 t.2.2.length) (by rw [← hN]; rfl), sBin_leq, sIf_dec]
      refine ⟨fun hle => ?_, fun hgt2 => ?_⟩
      · refine (ih (hkt.ext E2) hgt ⟨by omega, by omega⟩).mono ?_
        rintro u w3 ⟨e3, a, b', rfl, ra, rb⟩
        have E3 := E2.trans e3
        rw [sExtract_0, sExtract_1]
        refine DrawS.ext ?_
        have E : Ext w3 w3.drew := (Ext.refl w3).drew
        have hc3 := hc.ext E3
        have hs3 := hsl.ext E3
        rw [sNil_ptr, stillS_eq (fun w1 h1 K => sFldA_ptr S.tfl_tree_inner_kids) E, stillS_cell S.tcell_L_tree_node (hc3.fst rfl) E,
          stillS_eq (fun w1 h1 K => sSlice_hm (hi := i) (mx := i) S.tel_L_tree_node S.tsz_tree_node (by omega) (hs3.ext h1) rfl rfl (by omega) (by omega)) E,
          sNil_ptr, stillS_eq (fun w1 h1 K => sFldA_ptr S.tfl_tree_inner_kids) E, stillS_cell S.tcell_L_tree_node (hc3.fst rfl) E,
          stillS_eq (fun w1 h1 K => sBin_add _ _ ⟨by omega, by omega⟩) E,
          stillS_eq (fun w1 h1 K => sSlice_l (lo := i + 1) S.tel_L_tree_node S.tsz_tree_node (by omega) (hs3.ext h1) (by omega) (by rw [List.length_map]; omega)) E, List.length_map]
        have p1 : Sl w3 (slV (sv s) 1 0 i i) 1 encK ((ks.take i).map (·.1)) := by
          simpa using kids_part hs3 (lo := 0) (hi := i) (mx := i) (by omega) (by omega) (by omega) (by omega)
        have p2 : Sl w3 (slV (sv s) 1 (i + 1) ks.length (capV (sv s))) 1 encK ((ks.drop (i + 1)).map (·.1)) := by
          have := kids_part hs3 (lo := i + 1) (hi := ks.length) (mx := capV (sv s)) (by omega) (by omega) (by omega) (by omega)
          rwa [List.take_length] at this
        have hn' : at_.toNat = ((ks.take i).flatMap (·.2.2)).length + (at_ - ((ks.take i).flatMap (·.2.2)).length).toNat := by
          rcases Nat.eq_zero_or_pos i with h0 | h0
          · subst h0; simp
          · have := hat2 h0; omega
        generalize hA' : (at_ - ((ks.take i).flatMap (·.2.2)).length).toNat = n' at ra rb hn'
        have hn8 : n' ≤ t.2.2.length := by omega
        have T1 : (ks.flatMap (·.2.2)).take at_.toNat = (ks.take i).flatMap (·.2.2) ++ t.2.2.take n' := by
          rw [hn', ← hfl, List.take_length_add_append, List.take_append_of_le_length hn8]
        have T2 : (ks.flatMap (·.2.2)).drop at_.toNat = t.2.2.drop n' ++ (ks.drop (i + 1)).flatMap (·.2.2) := by
          rw [hn', ← hfl, List.drop_length_add_append, List.drop_append_of_le_length hn8]
        have g1 : Gd ((ks.take i).flatMap (·.2.2) ++ t.2.2.take n') := by rw [← T1]; exact hg.take _
        have g2 : Gd (t.2.2.drop n' ++ (ks.drop (i + 1)).flatMap (·.2.2)) := by rw [← T2]; exact hg.drop _
        refine (row_spec (h := h) (p1.ext E) (fun q hq => ⟨(hk q (List.mem_of_mem_take hq)).1, (hk q (List.mem_of_mem_take hq)).2.ext (E3.trans E)⟩) (g1.sub (fun x hx => List.mem_append_left _ hx) (by simp)) (by rw [List.length_take]; omega)).mono ?_
        rintro u w4 ⟨e4, r4⟩
        have F4 := E.trans e4
        refine ⟨F4, ?_⟩
        refine (join_spec r4 (ra.ext F4) g1).mono ?_
        rintro u w5 ⟨e5, r5⟩
        have F5 := F4.trans e5
        refine ⟨F5, ?_⟩
        refine (row_spec (h := h) (p2.ext F5) (fun q hq => ⟨(hk q (List.mem_of_mem_drop hq)).1, (hk q (List.mem_of_mem_drop hq)).2.ext (E3.trans F5)⟩) (g2.sub (fun x hx => List.mem_append_right _ hx) (by simp)) (by rw [List.length_drop]; omega)).mono ?_
        rintro u w6 ⟨e6, r6⟩
        have F6 := F5.trans e6
        refine ⟨F6, ?_⟩
        refine (join_spec (rb.ext F6) r6 g2).mono ?_
        rintro u w7 ⟨e7, r7⟩
        have F7 := F6.trans e7
        refine ⟨F7, E3.trans F7, _, _, rfl, ?_, ?_⟩
        · rw [T1]; exact (r5.ext e6).ext e7
        · rw [T2]; exact r7
      · rw [sBin_sub _ _ ⟨by omega, by omega⟩, sBin_add _ _ ⟨by omega, by omega⟩]
        have htk : ((ks.take (i + 1)).flatMap (·.2.2)).length = ((ks.take i).flatMap (·.2.2)).length + t.2.2.length := by
          rw [take_succ_of ht, List.flatMap_append, List.flatMap_singleton, List.length_append]
        refine ⟨⟨E2, i + 1, by rw [htk]; simp; omega, by omega, fun _ => by rw [htk]; omega⟩, by simp only []; omega⟩
    · obtain rfl : i = ks.length := by omega
      rw [List.take_length] at hat2
      have := hat2 (by omega)
      rw [sIface_mk S.tcq_P_tree_inner]
      refine ⟨e1, _, _, rfl, ?_, ?_⟩
      · rw [List.take_of_length_le (by omega)]
        exact .inr ⟨_, (false, b), _, rfl, hd0.ext e1⟩
      · rw [List.drop_of_length_le (by omega)]
        exact Rt.nil w1
theorem split_spec {w : World} {v : Value} {xs : List It} {at_ : Int} (hr : Rt w v xs) (hg : Gd xs) (hat : I64 at_) :
    sCall Tryd.prog S.tree_split.n [v, .int .i64 at_] w fun u w' => Ext w w' ∧ ∃ a b, u = .tuple #[a, b] ∧ Rt w' a (xs.take at_.toNat) ∧ Rt w' b (xs.drop at_.toNat) := by
  rcases hr with ⟨rfl, rfl⟩ | ⟨h, k, c, rfl, hd⟩
  · refine S.tree_split.call ?_
    unfold S.tree_split
    obtain ⟨z, hz⟩ := sAssert_nil (P := Tryd.prog) (T := S.T.tree_node) S.tcq_P_tree_leaf
    obtain ⟨z2, hz2⟩ := sAssert_nil (P := Tryd.prog) (T := S.T.tree_node) S.tcq_P_tree_inner
    rw [hz, sExtract_1, sExtract_0, sIf_false, hz2, sExtract_1, sExtract_0, sIf_false, List.take_nil, List.drop_nil]
    exact ⟨Ext.refl w, _, _, rfl, Rt.nil w, Rt.nil w⟩
  · exact split_nd h hd hg hat
end Go.Proofs.YtpjmmhbdondknaaDoor
namespace Go.Proofs.YtpjmmhbdondknaaDoor
open Go Go.Lift Go.RowKit

/-- A tree, or nil. -/
def Tp (w : World) (v : Value) (xs : List It) : Prop := (v = .pointer none ∧ xs = []) ∨ ∃ b r, v = .pointer (some ⟨b, 0, none⟩) ∧ Cells w b 0 [r] ∧ Rt w r xs
theorem Tp.ext {w w' : World} {v : Value} {xs : List It} (h : Tp w v xs) (e : Ext w w') : Tp w' v xs := by
  rcases h with h | ⟨b, r, h1, h2, h3⟩
  · exact .inl h
  · exact .inr ⟨b, r, h1, h2.ext e, h3.ext e⟩
theorem Tp.nil (w : World) : Tp w (.pointer none) [] := .inl ⟨rfl, rfl⟩
theorem Tp.shape {w : World} {v : Value} {xs : List It} (h : Tp w v xs) : v.cells = [v].toArray ∧ v.oneCell' = true := by
  rcases h with ⟨rfl, _⟩ | ⟨b, r, rfl, _⟩ <;> exact ⟨rfl, rfl⟩
theorem Tp.ptr {w : World} {v : Value} {xs : List It} (h : Tp w v xs) : ∃ p, v = .pointer p := by
  rcases h with ⟨rfl, _⟩ | ⟨b, r, rfl, _⟩ <;> exact ⟨_, rfl⟩

theorem top_spec {w : World} {t : Value} {xs : List It} (ht : Tp w t xs) : sCall Tryd.prog S.tree_Tree_top.n [t] w fun u w' => w' = w ∧ Rt w u xs := by
  refine S.tree_Tree_top.call ?_
  unfold S.tree_Tree_top
  rcases ht with ⟨rfl, rfl⟩ | ⟨b, r, rfl, hc, hr⟩
  · rw [sBin_ptr_eq S.tpt_P_tree_Tree]
    exact ⟨rfl, Rt.nil w⟩
  · rw [sBin_ptr_eq S.tpt_P_tree_Tree, Option.isNone_some, sIf_false, sNil_ptr, sFldA_ptr S.tfl_tree_Tree_root, sLoad_cell S.tcell_tree_node (hc.fst rfl)]
    exact ⟨rfl, hr⟩
theorem sumR_spec {w : World} {v : Value} {xs : List It} (hr : Rt w v xs) : sCall Tryd.prog S.tree_sumOf.n [v] w fun u w' => Ext w w' ∧ u = .agg (encS (allS xs)).toArray := by
  rcases hr with ⟨rfl, rfl⟩ | ⟨h, k, c, rfl, hd⟩
  · exact sumOf_nil
  · exact sumOf_spec hd
theorem tsum_spec {w : World} {t : Value} {xs : List It} (ht : Tp w t xs) : sCall Tryd.prog S.tree_Tree_Sum.n [t] w fun u w' => Ext w w' ∧ u = .agg (encS (allS xs)).toArray := by
  refine S.tree_Tree_Sum.call ?_
  unfold S.tree_Tree_Sum
  refine sAlloc_new S.tze_item_Sum fun b w1 hb hs1 e1 hk => ?_
  refine (top_spec (ht.ext e1)).mono ?_
  rintro r w2 ⟨rfl, hr⟩
  refine (sumR_spec hr).mono ?_
  rintro u w3 ⟨e3, rfl⟩
  have h3 := e3.size
  refine sStore_blk S.tsz_item_Sum (by decide) (hk.ext e3) (vs := encS (allS xs)) rfl rfl (by simp) (encS_one _) fun w7 hs7 hg7 hk7 => ?_
  rw [sLoad_agg (cs := encS (allS xs)) S.tagg_item_Sum hk7.cells rfl]
  exact ⟨rfl, (e1.trans e3).wr hg7 (by rintro _ ⟨⟩; omega), rfl⟩

/-- What stands between all items and an index that goes through them, eight by eight. -/
def upto (i : Nat) : Nat := 8 * ((i + 7) / 8)
theorem upto_mul {i : Nat} (h : i % 8 = 0) : upto i = i ∧ upto (i + 1) = i + 8 := by unfold upto; omega
theorem upto_not {i : Nat} (h : i % 8 ≠ 0) : upto (i + 1) = upto i := by unfold upto; omega
theorem upto_ge (i : Nat) : i ≤ upto i := by unfold upto; omega
def zeroIt : It := ⟨0, 0, 0, 0, 0, 0, ⟨#[]⟩⟩

theorem new_spec {w : World} {l : Value} {xs : List It} (hl : Sl w l 7 encT xs) :
    sCall Tryd.prog S.tree_New.n [l] w fun u w' => Ext w w' ∧ ((30000 < xs.length ∧ u = .tuple #[.pointer none, .int .i64 5]) ∨ (xs.length ≤ 30000 ∧ ¬ (∀ x ∈ xs, ItOk x) ∧ u = .tuple #[.pointer none, .int .i64 1]) ∨
      (xs.length ≤ 30000 ∧ (∀ x ∈ xs, ItOk x) ∧ ∃ b r, u = .tuple #[.pointer (some ⟨b, 0, none⟩), .int .i64 0] ∧ Cells w' b 0 [r] ∧ Rt w' r xs)) := by
  refine S.tree_New.call ?_
  unfold S.tree_New
  have hmx : maxLen = 9223372036854775807 := rfl
  rw [sLen_sl S.tel_L_item_Item hl, sBin_gtr, sIf_dec]
  refine ⟨fun h => ⟨Ext.refl w, .inl ⟨by omega, rfl⟩⟩, fun hn => ?_⟩
  have hn : xs.length ≤ 30000 := by omega
  rw [sLen_sl S.tel_L_item_Item hl]
  refine LoopS.intro (fun us w1 => Ext w w1 ∧ ∃ (i : Nat) (r : Value), us = [r, .int .i64 i] ∧ i ≤ xs.length ∧ (∀ x ∈ xs.take i, ItOk x) ∧ Rt w1 r (xs.take (upto i)))
    (fun us _ => match us with | [_, .int _ a] => (xs.length - a).toNat | _ => 0) ⟨Ext.refl w, 0, _, rfl, by omega, by simp, Rt.nil w⟩ ?_
  rintro us vs w1 ⟨e1, i, r, rfl, hi, hok, hr⟩
  unfold S.tree_New_L1
  rw [Go.Lift.hd, Go.Lift.tl, Go.Lift.hd, sBin_lss, sIf_dec]
  refine ⟨fun hlt => ?_, fun hge => ?_⟩
  · obtain ⟨x, hx⟩ : ∃ x, xs[i]? = some x := ⟨_, List.getElem?_eq_getElem (by omega)⟩
    obtain ⟨b, o, hel, hc⟩ := (hl.ext e1).el hx
    rw [sIdxA_sl S.tel_L_item_Item S.tsz_item_Item (by omega) (hl.ext e1) hx rfl, hel, sLoad_agg S.tagg_item_Item hc rfl]
    refine sVar S.tze_item_Item S.tsz_item_Item (by decide) rfl rfl (encT_ok.one x) fun b2 w2 hb2 hs2 e2 hk2 => ?_
    have E2 := e1.trans e2
    rw [sLoad_agg S.tagg_item_Item hk2.cells rfl]
    refine (check_spec x).mono ?_
    rintro u w3 ⟨e3, e, rfl, he⟩
    have E3 := E2.trans e3
    have hr3 := (hr.ext e2).ext e3
    rw [sBin_neq, sIf_not]
    refine ⟨fun hne => ?_, fun heq => ?_⟩
    · obtain ⟨hxo, rfl⟩ : ¬ ItOk x ∧ e = 1 := by
        rcases he with ⟨_, rfl⟩ | h
        · exact absurd rfl hne
        · exact h
      exact ⟨E3, .inr (.inl ⟨hn, fun h => hxo (h x (List.mem_of_getElem? hx)), rfl⟩)⟩
    have hxo : ItOk x := by
      rcases he with ⟨h, _⟩ | ⟨_, rfl⟩
      · exact h
      · cases heq
    have hok' : ∀ y ∈ xs.take (i + 1), ItOk y := by
      intro y hy
      rw [take_succ_of hx] at hy
      rcases List.mem_append.1 hy with hy | hy
      · exact hok y hy
      · simp at hy; subst hy; exact hxo
    rw [sBin_rem _ _ (by omega) (by omega) (by omega), sBin_eql, sIf_dec]
    refine ⟨fun h8 => ?_, fun h8 => ?_⟩
    · obtain ⟨u1, u2⟩ := upto_mul (i := i) (by omega)
      rw [sLen_sl S.tel_L_item_Item (hl.ext E3), sBin_sub _ _ ⟨by omega, by omega⟩, sMin_int]
      obtain ⟨n, hnn, hn1, hn8, hnl⟩ : ∃ n : Nat, (if (xs.length : Int) - i < 8 then (xs.length : Int) - i else 8) = n ∧ 1 ≤ n ∧ n ≤ 8 ∧ n = min 8 (xs.length - i) := by
        refine ⟨min 8 (xs.length - i), ?_, by omega, by omega, rfl⟩
        split <;> omega
      rw [hnn]
      refine sMake_full zeroIt S.tel_L_item_Item S.tsz_item_Item (by decide) S.tze_item_Item encT_ok rfl rfl rfl (by rw [S.tby_item_Item]; omega) (by omega) fun v w4 hv e4 => ?_
      have E4 := E3.trans e4
      have hrl : (List.replicate n zeroIt).length = n := by simp
      have hdl : (xs.drop i).length = xs.length - i := by simp
      rw [sSlice_l (lo := i) S.tel_L_item_Item S.tsz_item_Item (by omega) (hl.ext E4) rfl (by omega)]
      have p2 : Sl w4 (slV l 7 i xs.length (capV l)) 7 encT (xs.drop i) := by
        simpa using (hl.ext E4).part (lo := i) (hi := xs.length) (mx := capV l) (by omega) (by omega) (sl_cap hl) (Nat.le_refl _)
      refine sCopy_row S.tel_L_item_Item S.tsz_item_Item (by decide) encT_ok hv p2 (by omega) fun w5 hs5 hg5 hv5 => ?_
      have E5 : Ext w w5 := E4.wr hg5 fun g hg => by have := (hv.lt g hg).1; have := E3.size; omega
      have e35 : Ext w3 w5 := e4.wr hg5 fun g hg => (hv.lt g hg).1
      rw [hrl] at hv5
      have htl : ((xs.drop i).take n).length = n := by simp; omega
      refine (leafOf_spec (hv5.sl encT_ok) ⟨by omega⟩ (by omega) (by omega)).mono ?_
      rintro u w6 ⟨e6, bl, rfl, hd6⟩
      rw [sIface_mk S.tcq_P_tree_leaf]
      rw [u1] at hr3
      have hjoin : xs.take i ++ (xs.drop i).take n = xs.take (i + 8) := by
        rw [List.take_add]
        congr 1
        by_cases h9 : xs.length - i < 8
        · rw [List.take_of_length_le (by omega), List.take_of_length_le (by omega)]
        · rw [show n = 8 by omega]
      refine (join_spec ((hr3.ext e35).ext e6) (.inr ⟨0, (true, bl), _, rfl, hd6⟩) ⟨by rw [hjoin, List.length_take]; omega⟩).mono ?_
      rintro u w7 ⟨e7, r7⟩
      rw [sBin_add _ _ ⟨by omega, by omega⟩]
      refine ⟨⟨(E5.trans e6).trans e7, i + 1, u, by simp, by omega, hok', ?_⟩, by simp only []; omega⟩
      rw [u2, ← hjoin]; exact r7
    · rw [sBin_add _ _ ⟨by omega, by omega⟩]
      refine ⟨⟨E3, i + 1, r, by simp, by omega, hok', ?_⟩, by simp only []; omega⟩
      rw [upto_not (by omega)]; exact hr3
  · obtain rfl : i = xs.length := by omega
    rw [List.take_of_length_le (upto_ge _)] at hr
    rw [List.take_length] at hok
    rw [sBuild_of (cs := [r]) (lp := [(0, [r])]) S.tze_tree_Tree S.tpl_tree_Tree (by rw [List.map_singleton, List.map_singleton, hr.shape.1]) rfl]
    refine sBox_new (cs := [r]) rfl fun b w2 hb hs2 e2 hk2 => ?_
    exact ⟨e1.trans e2, .inr (.inr ⟨hn, hok, b, r, rfl, hk2.cells, hr.ext e2⟩)⟩
end Go.Proofs.YtpjmmhbdondknaaDoor
namespace Go.Proofs.YtpjmmhbdondknaaDoor
open Go Go.Lift Go.RowKit

/-- A tree that is none of nil. -/
def Tq (w : World) (v : Value) (xs : List It) : Prop := ∃ b r, v = .pointer (some ⟨b, 0, none⟩) ∧ Cells w b 0 [r] ∧ Rt w r xs
theorem Tq.tp {w : World} {v : Value} {xs : List It} (h : Tq w v xs) : Tp w v xs := .inr h
theorem Tq.ext {w w' : World} {v : Value} {xs : List It} (h : Tq w v xs) (e : Ext w w') : Tq w' v xs := by
  obtain ⟨b, r, h1, h2, h3⟩ := h; exact ⟨b, r, h1, h2.ext e, h3.ext e⟩
theorem treeOf {w : World} {K : K1} {r : Value} {xs : List It} (hr : Rt w r xs) (h : ∀ v w', Ext w w' → Tq w' v xs → K v w') :
    sBuild Tryd.prog S.T.tree_Tree [(0, r)] w fun x w => sBox Tryd.prog S.T.tree_Tree x w K := by
  rw [sBuild_of (cs := [r]) (lp := [(0, [r])]) S.tze_tree_Tree S.tpl_tree_Tree (by rw [List.map_singleton, List.map_singleton, hr.shape.1]) rfl]
  refine sBox_new (cs := [r]) rfl fun b w2 hb hs2 e2 hk2 => ?_
  exact h _ w2 e2 ⟨b, r, rfl, hk2.cells, hr.ext e2⟩
theorem sumN {w : World} {K : K1} {xs : List It} : sFld Tryd.prog S.T.item_Sum (.agg (encS (allS xs)).toArray) 0 w K = K (.int .i64 xs.length) w := by
  have hN : (allS xs).n = xs.length := allS_n _
  rw [sFld_cell S.tfd_item_Sum_N S.tcell_int (v := .int .i64 xs.length) (by rw [← hN]; rfl)]

abbrev InR (xs : List It) (a b : Int) : Prop := 0 ≤ a ∧ a ≤ b ∧ b ≤ xs.length
theorem treplace_spec {w : World} {t l : Value} {xs ys : List It} {a b : Int} (ht : Tp w t xs) (hx : xs.length ≤ 30000) (hl : Sl w l 7 encT ys) :
    sCall Tryd.prog S.tree_Tree_Replace.n [t, .int .i64 a, .int .i64 b, l] w fun u w' => Ext w w' ∧ ((¬ InR xs a b ∧ u = .tuple #[.pointer none, .int .i64 1]) ∨
      (InR xs a b ∧ 30000 < ys.length ∧ u = .tuple #[.pointer none, .int .i64 5]) ∨
      (InR xs a b ∧ ys.length ≤ 30000 ∧ ¬ (∀ y ∈ ys, ItOk y) ∧ u = .tuple #[.pointer none, .int .i64 1]) ∨
      (InR xs a b ∧ ys.length ≤ 30000 ∧ (∀ y ∈ ys, ItOk y) ∧ 30000 < xs.length - (b - a) + ys.length ∧ u = .tuple #[.pointer none, .int .i64 5]) ∨
      (InR xs a b ∧ ys.length ≤ 30000 ∧ (∀ y ∈ ys, ItOk y) ∧ xs.length - (b - a) + ys.length ≤ 30000 ∧ ∃ v, u = .tuple #[v, .int .i64 0] ∧ Tq w' v (xs.take a.toNat ++ ys ++ xs.drop b.toNat))) := by
  refine S.tree_Tree_Replace.call ?_
  unfold S.tree_Tree_Replace
  have hg : Gd xs := ⟨by omega⟩
  refine (tsum_spec ht).mono ?_
  rintro u w1 ⟨e1, rfl⟩
  rw [sumN, sBin_lss, sIf_dec]
  refine ⟨fun h => ⟨e1, .inl ⟨by omega, rfl⟩⟩, fun h1 => ?_⟩
  rw [sBin_lss, sIf_dec]
  refine ⟨fun h => ⟨e1, .inl ⟨by omega, rfl⟩⟩, fun h2 => ?_⟩
  rw [sBin_gtr, sIf_dec]
  refine ⟨fun h => ⟨e1, .inl ⟨by omega, rfl⟩⟩, fun h3 => ?_⟩
  have hin : InR xs a b := ⟨by omega, by omega, by omega⟩
  refine (new_spec (hl.ext e1)).mono ?_
  rintro u w2 ⟨e2, hu⟩
  have E2 := e1.trans e2
  rcases hu with ⟨h4, rfl⟩ | ⟨h4, h5, rfl⟩ | ⟨h4, h5, q, m, rfl, hqc, hm⟩
  · rw [sExtract_0, sExtract_1, sBin_neq, sIf_not]
    exact ⟨fun _ => ⟨E2, .inr (.inl ⟨hin, h4, rfl⟩)⟩, fun h => by cases h⟩
  · rw [sExtract_0, sExtract_1, sBin_neq, sIf_not]
    exact ⟨fun _ => ⟨E2, .inr (.inr (.inl ⟨hin, h4, h5, rfl⟩))⟩, fun h => by cases h⟩
  rw [sExtract_0, sExtract_1, sBin_neq, sIf_not]
  refine ⟨fun h => absurd rfl h, fun _ => ?_⟩
  rw [sBin_sub _ _ ⟨by omega, by omega⟩, sBin_sub _ _ ⟨by omega, by omega⟩, sLen_sl S.tel_L_item_Item (hl.ext E2), sBin_add _ _ ⟨by omega, by omega⟩, sBin_gtr, sIf_dec]
  refine ⟨fun h => ⟨E2, .inr (.inr (.inr (.inl ⟨hin, h4, h5, by omega, rfl⟩)))⟩, fun h6 => ?_⟩
  refine (top_spec (ht.ext E2)).mono ?_
  rintro r w ⟨rfl, hr⟩
  refine (split_spec hr hg ⟨by omega, by omega⟩).mono ?_
  rintro u w3 ⟨e3, x, y, rfl, hx1, hy1⟩
  rw [sExtract_0, sExtract_1, sBin_sub _ _ ⟨by omega, by omega⟩]
  refine (split_spec hy1 (hg.drop _) ⟨by omega, by omega⟩).mono ?_
  rintro u w4 ⟨e4, x', y', rfl, hx2, hy2⟩
  have E4 := e3.trans e4
  rw [sExtract_0, sExtract_1, sNil_ptr, sFldA_ptr S.tfl_tree_Tree_root, sLoad_cell S.tcell_tree_node ((hqc.ext E4).fst rfl)]
  have hd : (xs.drop a.toNat).drop (b - a).toNat = xs.drop b.toNat := by rw [List.drop_drop]; congr 1; omega
  rw [hd] at hy2
  have l1 : (xs.take a.toNat).length = a.toNat := by rw [List.length_take]; omega
  have l2 : (xs.drop b.toNat).length = xs.length - b.toNat := by rw [List.length_drop]
  refine (join_spec (hx1.ext e4) (hm.ext E4) ⟨by rw [List.length_append]; omega⟩).mono ?_
  rintro u w5 ⟨e5, r5⟩
  refine (join_spec r5 (hy2.ext e5) ⟨by rw [List.length_append, List.length_append]; omega⟩).mono ?_
  rintro u w6 ⟨e6, r6⟩
  refine treeOf r6 fun v w7 e7 hv => ?_
  exact ⟨((((E2.trans E4).trans e5).trans e6).trans e7), .inr (.inr (.inr (.inr ⟨hin, h4, h5, by omega, v, rfl, hv⟩)))⟩

theorem Rt.high {w : World} {v : Value} {xs : List It} (hr : Rt w v xs) (hg : Gd xs) : ∃ h : Nat, (∀ (K : K1), (∀ w', w' = w → K (.int .i64 h) w') → sCall Tryd.prog S.tree_heightOf.n [v] w K) ∧ (h = 0 ↔ xs = []) ∧ (1 ≤ h → 4 ^ (h - 1) ≤ xs.length) ∧ h ≤ 11 ∧ (2 ≤ h → 2 * 4 ^ (h - 1) ≤ xs.length) := by
  rcases hr with ⟨rfl, rfl⟩ | ⟨h, k, c, rfl, hd⟩
  · refine ⟨0, fun K hK => heightOf_nil.mono ?_, by simp, by simp, by omega, by simp⟩
    rintro u w' ⟨rfl, rfl⟩; exact hK _ rfl
  · have hm := hd.many
    have h8 := hd.le8
    have hp : 1 * 4 ^ h ≤ c * 4 ^ h := Nat.mul_le_mul_right _ h8.1
    have hpos : 0 < 4 ^ h := Nat.pow_pos (by decide)
    refine ⟨h + 1, fun K hK => (heightOf_spec hd).mono ?_, ⟨by omega, fun hx => ?_⟩, fun _ => by rw [Nat.add_sub_cancel]; omega, by have := hd.high hg.n; omega, fun h2 => ?_⟩
    · rintro u w' ⟨rfl, rfl⟩; exact hK _ rfl
    · subst hx; simp at hm; omega
    · rw [Nat.add_sub_cancel]
      have hc2 : 2 ≤ c := by
        cases h with
        | zero => omega
        | succ h => exact hd.2.1
      have := Nat.mul_le_mul_right (4 ^ h) hc2
      omega
end Go.Proofs.YtpjmmhbdondknaaDoor
namespace Go.Proofs.YtpjmmhbdondknaaDoor
open Go Go.Lift Go.RowKit

/-- What is there while all items of a tree are told: nothing of 'w' has changed; the list so far, at a place. -/
structure Out (w w' : World) (b : Nat) (xs : List It) : Prop where
  e : Ext w w'
  hb : w.heap.size ≤ b
  lt : b < w'.heap.size
  v : ∃ v, Blk w' b [v] ∧ Row w' (b + 1) S.T.item_Item 7 v encT xs
theorem items1 {w0 w : World} {b : Nat} {xs : List It} (x : It) (h : Out w0 w b xs) (hn : xs.length ≤ 1000000) :
    sDyn Tryd.prog (.func (.func S.tree_Tree_Items_1.n) #[] #[.pointer (some ⟨b, 0, none⟩)]) [.agg (encT x).toArray] w fun _ w' => Out w0 w' b (xs ++ [x]) := by
  rw [sDyn_func]
  refine S.tree_Tree_Items_1.call ?_
  unfold S.tree_Tree_Items_1
  obtain ⟨v, kv, hv⟩ := h.v
  have hmx : maxLen = 9223372036854775807 := rfl
  have hE := h.e; have hB := h.hb; have hlt := h.lt
  refine sBox_new (cs := encT x) rfl fun b2 w1 hb2 hs1 e1 hk2 => ?_
  rw [sLoad_cell S.tcell_L_item_Item ((kv.ext e1).cells.fst rfl), sLoad_agg S.tagg_item_Item hk2.cells rfl]
  refine sBuildSlice_own (n := 1) (enc := encT) (xs := [x]) (lp := [(0, encT x)]) S.tel_L_item_Item S.tsz_item_Item rfl S.tze_item_Item (by decide) (by decide) encT_ok rfl rfl fun t w2 ht ho2 he2 hs2 => ?_
  refine sAppend_row S.tel_L_item_Item S.tsz_item_Item (by decide) S.tze_item_Item rfl encT_ok ((hv.ext e1).ext he2) (by omega) (ho2.sl encT_ok) (by simp; omega) (by rw [S.tby_item_Item]; simp; omega) fun v' w3 hv3 hg3 _ => ?_
  have F2 := e1.trans he2
  have hsz := F2.size
  have hl := fun g hg => (hv.lt g hg)
  have E3 : Ext w0 w3 := (hE.trans F2).wr hg3 fun g hg => by have := hl g hg; omega
  have k3 := (kv.ext F2).wr hg3 (fun e => by have := hl b e.symm; omega)
  have hs3 := hg3.size
  refine sStore_blk S.tsz_L_item_Item (by decide) k3 (vs := [v']) hv3.shape.1 rfl (by simp) (by simpa using hv3.shape.2) fun w4 hs4 hg4 hk4 => ?_
  have hk4 : Blk w4 b [v'] := hk4
  have hv4 : Row w4 (b + 1) S.T.item_Item 7 v' encT (xs ++ [x]) := by
    refine hv3.wr hg4 ?_
    cases hvo : v'.ownBlock with
    | none => exact .inl rfl
    | some g => exact .inr (by intro e; cases e; have := (hv3.lt b hvo).1; omega)
  exact ⟨E3.wr hg4 (by rintro _ ⟨⟩; omega), hB, by omega, v', hk4, hv4⟩

theorem each_nd {b : Nat} : ∀ (h : Nat) {w0 w : World} {k : Nv} {c : Nat} {xs ys : List It}, Nd w0 h k c xs → Out w0 w b ys → (ys ++ xs).length ≤ 1000000 →
    sCall Tryd.prog S.tree_each.n [ndv k, .func (.func S.tree_Tree_Items_1.n) #[] #[.pointer (some ⟨b, 0, none⟩)]] w fun _ w' => Out w0 w' b (ys ++ xs) := by
  intro h
  induction h with
  | zero =>
    intro w0 w k c xs ys hd ho hn
    refine S.tree_each.call ?_
    unfold S.tree_each
    have hE := ho.e
    obtain ⟨b', s, rfl, k1, k8, rfl, hc, hsl'⟩ := nd_leaf hd
    rw [ndv_t, sAssert_yes S.tcq_P_tree_leaf, sExtract_1, sExtract_0, sIf_true, sNil_ptr, sFldA_ptr S.tfl_tree_leaf_items, sLoad_cell S.tcell_L_item_Item ((hc.ext hE).fst rfl), sLen_sl S.tel_L_item_Item (hsl'.ext hE)]
    refine LoopS.intro (fun us w1 => ∃ i : Nat, us = [.int .i64 i] ∧ i ≤ xs.length ∧ Out w0 w1 b (ys ++ xs.take i))
      (fun us _ => match us with | [.int _ a] => (xs.length - a).toNat | _ => 0) ⟨0, rfl, by omega, by simpa using ho⟩ ?_
    rintro us vs w1 ⟨i, rfl, hi, ho1⟩
    unfold S.tree_each_L1
    rw [List.length_append] at hn
    have hE1 := ho1.e
    rw [Go.Lift.hd, sBin_lss, sIf_dec]
    refine ⟨fun hlt => ?_, fun hge => ?_⟩
    · obtain ⟨x, hx⟩ : ∃ x, xs[i]? = some x := ⟨_, List.getElem?_eq_getElem (by omega)⟩
      obtain ⟨b1, o1, hel, hc1⟩ := (hsl'.ext hE1).el hx
      rw [sIdxA_sl S.tel_L_item_Item S.tsz_item_Item (by omega) (hsl'.ext hE1) hx rfl, hel, sLoad_agg S.tagg_item_Item hc1 rfl]
      refine sVar S.tze_item_Item S.tsz_item_Item (by decide) rfl rfl (encT_ok.one x) fun b2 w2 hb2 hs2 e2 hk2 => ?_
      rw [sLoad_agg S.tagg_item_Item hk2.cells rfl]
      obtain ⟨v, kv, hv⟩ := ho1.v
      have ho2 : Out w0 w2 b (ys ++ xs.take i) := ⟨hE1.trans e2, ho1.hb, by have := ho1.lt; omega, v, kv.ext e2, hv.ext e2⟩
      refine sDyn_mono (fun u w3 ho3 => ?_) (items1 x ho2 (by rw [List.length_append, List.length_take]; omega))
      rw [sBin_add _ _ ⟨by omega, by omega⟩]
      refine ⟨⟨i + 1, by simp, by omega, ?_⟩, by simp only []; omega⟩
      rw [take_succ_of hx, ← List.append_assoc]; exact ho3
    · obtain rfl : i = xs.length := by omega
      rw [List.take_length] at ho1
      exact ho1
  | succ h ih =>
    intro w0 w k c xs ys hd ho hn
    refine S.tree_each.call ?_
    unfold S.tree_each
    have hE := ho.e
    obtain ⟨bk, s, ks, rfl, k2, k8, rfl, hc, hsl, rfl, hk⟩ := nd_inner hd
    obtain ⟨z, hz⟩ := sAssert_no (P := Tryd.prog) (T := S.T.tree_node) (v := .pointer (some ⟨bk, 0, none⟩)) (B := S.T.P_tree_inner) S.tcq_P_tree_leaf (by decide)
    rw [ndv_f, hz, sExtract_1, sExtract_0, sIf_false, sAssert_yes S.tcq_P_tree_inner, sExtract_1, sExtract_0, sIf_true, sNil_ptr, sFldA_ptr S.tfl_tree_inner_kids, sLoad_cell S.tcell_L_tree_node ((hc.ext hE).fst rfl), sLen_sl S.tel_L_tree_node (hsl.ext hE), List.length_map]
    refine LoopS.intro (fun us w1 => ∃ i : Nat, us = [.int .i64 i] ∧ i ≤ ks.length ∧ Out w0 w1 b (ys ++ (ks.take i).flatMap (·.2.2)))
      (fun us _ => match us with | [.int _ a] => (ks.length - a).toNat | _ => 0) ⟨0, rfl, by omega, by simpa using ho⟩ ?_
    rintro us vs w1 ⟨i, rfl, hi, ho1⟩
    unfold S.tree_each_L2
    have hE1 := ho1.e
    rw [Go.Lift.hd, sBin_lss, sIf_dec]
    refine ⟨fun hlt => ?_, fun hge => ?_⟩
    · obtain ⟨t, ht⟩ : ∃ t, ks[i]? = some t := ⟨_, List.getElem?_eq_getElem (by omega)⟩
      have hm := List.mem_of_getElem? ht
      obtain ⟨b1, o1, hel1, hc1⟩ := (hsl.ext hE1).el (kids_at ht)
      have hfl : (ks.take i).flatMap (·.2.2) ++ (t.2.2 ++ (ks.drop (i + 1)).flatMap (·.2.2)) = ks.flatMap (·.2.2) := by
        conv => rhs; rw [← List.take_append_drop i ks, drop_cons_of ht]
        rw [List.flatMap_append, List.flatMap_cons]
      have hln := congrArg List.length hfl
      rw [List.length_append, List.length_append] at hln
      rw [List.length_append] at hn
      rw [sIdxA_sl S.tel_L_tree_node S.tsz_tree_node (by omega) (hsl.ext hE1) (kids_at ht) rfl, hel1, sLoad_cell S.tcell_tree_node (hc1.fst rfl)]
      refine (ih (hk t hm).2 ho1 (by rw [List.length_append, List.length_append]; omega)).mono ?_
      intro u w2 ho2
      rw [sBin_add _ _ ⟨by omega, by omega⟩]
      refine ⟨⟨i + 1, by simp, by omega, ?_⟩, by simp only []; omega⟩
      rw [take_succ_of ht, List.flatMap_append, List.flatMap_singleton, ← List.append_assoc]; exact ho2
    · obtain rfl : i = ks.length := by omega
      rw [List.take_length] at ho1
      exact ho1

theorem top_at {w : World} {t : Value} {xs : List It} (ht : Tp w t xs) : ∃ r, Rt w r xs ∧ ∀ w', Ext w w' → sCall Tryd.prog S.tree_Tree_top.n [t] w' fun u w'' => w'' = w' ∧ u = r := by
  rcases ht with ⟨rfl, rfl⟩ | ⟨b, r, rfl, hc, hr⟩
  · refine ⟨.nilIface, Rt.nil w, fun w' e => S.tree_Tree_top.call ?_⟩
    unfold S.tree_Tree_top
    rw [sBin_ptr_eq S.tpt_P_tree_Tree]
    exact ⟨rfl, rfl⟩
  · refine ⟨r, hr, fun w' e => S.tree_Tree_top.call ?_⟩
    unfold S.tree_Tree_top
    rw [sBin_ptr_eq S.tpt_P_tree_Tree, Option.isNone_some, sIf_false, sNil_ptr, sFldA_ptr S.tfl_tree_Tree_root, sLoad_cell S.tcell_tree_node ((hc.ext e).fst rfl)]
    exact ⟨rfl, rfl⟩
theorem titems_spec {w : World} {t : Value} {xs : List It} (ht : Tp w t xs) (hg : Gd xs) :
    sCall Tryd.prog S.tree_Tree_Items.n [t] w fun u w' => Ext w w' ∧ Row w' w.heap.size S.T.item_Item 7 u encT xs := by
  refine S.tree_Tree_Items.call ?_
  unfold S.tree_Tree_Items
  refine sAlloc_new S.tze_L_item_Item fun b w1 hb hs1 e1 hk => ?_
  obtain ⟨r, hr, htop⟩ := top_at ht
  refine (htop w1 e1).mono ?_
  rintro u w2 ⟨rfl, rfl⟩
  rw [sFunc_mk]
  have h0 : Out w w2 b [] := ⟨e1, by omega, by omega, _, hk, Row.nil _ _ _ _ _⟩
  have fin : ∀ w', Out w w' b xs → sLoad Tryd.prog S.T.L_item_Item (.pointer (some ⟨b, 0, none⟩)) w' fun x w'' => Ext w w'' ∧ Row w'' w.heap.size S.T.item_Item 7 x encT xs := by
    intro w' ho
    obtain ⟨v, kv, hv⟩ := ho.v
    rw [sLoad_cell S.tcell_L_item_Item (kv.cells.fst rfl)]
    exact ⟨ho.e, hv.mono (by omega)⟩
  rcases hr with ⟨rfl, rfl⟩ | ⟨h, k, c, rfl, hd⟩
  · refine S.tree_each.call ?_
    unfold S.tree_each
    obtain ⟨z, hz⟩ := sAssert_nil (P := Tryd.prog) (T := S.T.tree_node) S.tcq_P_tree_leaf
    obtain ⟨z2, hz2⟩ := sAssert_nil (P := Tryd.prog) (T := S.T.tree_node) S.tcq_P_tree_inner
    rw [hz, sExtract_1, sExtract_0, sIf_false, hz2, sExtract_1, sExtract_0, sIf_false]
    exact fin _ h0
  · refine (each_nd h hd h0 (by simpa using hg.n)).mono ?_
    intro u w3 h3
    exact fin w3 (by simpa using h3)
end Go.Proofs.YtpjmmhbdondknaaDoor
namespace Go.Proofs.YtpjmmhbdondknaaDoor
open Go Go.Lift Go.RowKit

theorem tat_spec {w : World} {t : Value} {xs : List It} {i : Int} (ht : Tp w t xs) (hg : Gd xs) :
    sCall Tryd.prog S.tree_Tree_At.n [t, .int .i64 i] w fun u w' => Ext w w' ∧ ((¬ (0 ≤ i ∧ i < xs.length) ∧ u = .tuple #[.agg (encT zeroIt).toArray, .int .i64 1]) ∨
      (0 ≤ i ∧ ∃ x, xs[i.toNat]? = some x ∧ u = .tuple #[.agg (encT x).toArray, .int .i64 0])) := by
  refine S.tree_Tree_At.call ?_
  unfold S.tree_Tree_At
  have hgn := hg.n
  refine sAlloc_new S.tze_item_Item fun b w1 hb hs1 e1 hk => ?_
  refine JoinS.intro (fun us w' => Ext w1 w' ∧ ∃ q : Bool, us = [.bool q] ∧ (q = true ↔ ¬ (0 ≤ i ∧ i < xs.length))) ?_ ?_
  · rw [sBin_lss, sIf_dec]
    refine ⟨fun h => ⟨Ext.refl _, true, rfl, by simp; omega⟩, fun h => ?_⟩
    refine (tsum_spec (ht.ext e1)).mono ?_
    rintro u w2 ⟨e2, rfl⟩
    rw [sumN, sBin_geq]
    exact ⟨e2, _, rfl, by rw [decide_eq_true_eq]; omega⟩
  rintro us vs w2 ⟨e2, q, rfl, hq⟩
  unfold S.tree_Tree_At_J1
  have E2 := e1.trans e2
  have k2 := hk.ext e2
  have fin : ∀ (x : It) (n : Nat) w3, Ext w2 w3 → ((n = 1 ∧ x = zeroIt ∧ ¬ (0 ≤ i ∧ i < xs.length)) ∨ (n = 0 ∧ 0 ≤ i ∧ xs[i.toNat]? = some x)) →
      sStore Tryd.prog S.T.item_Item (.pointer (some ⟨b, 0, none⟩)) (.agg (encT x).toArray) w3 fun w4 => sLoad Tryd.prog S.T.item_Item (.pointer (some ⟨b, 0, none⟩)) w4 fun v w' => w' = w4 ∧ (Ext w w4 ∧
        ((¬ (0 ≤ i ∧ i < xs.length) ∧ (.tuple #[v, .int .i64 n] : Value) = .tuple #[.agg (encT zeroIt).toArray, .int .i64 1]) ∨
        (0 ≤ i ∧ ∃ x, xs[i.toNat]? = some x ∧ (.tuple #[v, .int .i64 n] : Value) = .tuple #[.agg (encT x).toArray, .int .i64 0]))) := by
    intro x n w3 e3 hn
    refine sStore_blk S.tsz_item_Item (by decide) (k2.ext e3) (vs := encT x) rfl rfl (by simp) (encT_ok.one x) fun w4 hs4 hg4 hk4 => ?_
    rw [sLoad_agg (cs := encT x) S.tagg_item_Item hk4.cells rfl]
    have hsz := e1.size
    refine ⟨rfl, (E2.trans e3).wr hg4 (by rintro _ ⟨⟩; omega), ?_⟩
    rcases hn with ⟨rfl, rfl, h⟩ | ⟨rfl, h0, h⟩
    · exact .inl ⟨h, rfl⟩
    · exact .inr ⟨h0, x, h, rfl⟩
  rw [Go.Lift.hd, sIf_bool]
  refine ⟨fun hT => ?_, fun hF => ?_⟩
  · rw [sBuild_of (cs := encT zeroIt) (lp := []) S.tze_item_Item S.tpl_item_Item rfl rfl]
    exact fin zeroIt 1 w2 (Ext.refl _) (.inl ⟨rfl, rfl, hq.1 hT⟩)
  have hin : 0 ≤ i ∧ i < xs.length := Classical.byContradiction fun h => by rw [hq.2 h] at hF; cases hF
  refine (top_spec (ht.ext E2)).mono ?_
  rintro r w3 ⟨rfl, hr⟩
  obtain ⟨h, k, c, rfl, hd⟩ : ∃ h k c, r = ndv k ∧ Nd w3 h k c xs := by
    rcases hr with ⟨_, h⟩ | h
    · subst h; simp at hin; omega
    · exact h
  refine LoopS.ix (fun n us w4 => Ext w3 w4 ∧ ∃ (h j : Nat) (k : Nv) (c : Nat) (ys : List It), n = h + 1 ∧ us = [.int .i64 j, ndv k] ∧ Nd w4 h k c ys ∧ ys.length ≤ 1000000 ∧ j < ys.length ∧ ys[j]? = xs[i.toNat]?)
    ⟨_, Ext.refl _, h, i.toNat, k, c, xs, rfl, by rw [Int.toNat_of_nonneg hin.1], hd, hgn, by omega, rfl⟩ ?_
  rintro n us vs w4 ⟨e4, h, j, k, c, ys, rfl, rfl, hd, hyn, hj, hy⟩
  unfold S.tree_Tree_At_L2
  rw [Go.Lift.hd, Go.Lift.tl, Go.Lift.hd]
  cases h with
  | zero =>
    obtain ⟨bk, s, rfl, k1, k8, rfl, hc, hsl⟩ := nd_leaf hd
    obtain ⟨z, hz⟩ := sAssert_no (P := Tryd.prog) (T := S.T.tree_node) (v := .pointer (some ⟨bk, 0, none⟩)) (B := S.T.P_tree_leaf) S.tcq_P_tree_inner (by decide)
    obtain ⟨x, hx⟩ : ∃ x, ys[j]? = some x := ⟨_, List.getElem?_eq_getElem hj⟩
    obtain ⟨b1, o1, hel, hc1⟩ := hsl.el hx
    rw [ndv_t, hz, sExtract_0, sExtract_1, sUn_not, Bool.not_false, sIf_true, sAssert_is S.tcq_P_tree_leaf, sNil_ptr, sFldA_ptr S.tfl_tree_leaf_items, sLoad_cell S.tcell_L_item_Item (hc.fst rfl),
      sIdxA_sl S.tel_L_item_Item S.tsz_item_Item (by omega) hsl hx rfl, hel, sLoad_agg S.tagg_item_Item hc1 rfl]
    exact fin x 0 w4 e4 (.inr ⟨rfl, hin.1, by rw [← hy, hx]⟩)
  | succ h =>
    obtain ⟨bk, s, ks, rfl, k2', k8, rfl, hc, hsl, rfl, hkd⟩ := nd_inner hd
    rw [ndv_f, sAssert_yes S.tcq_P_tree_inner, sExtract_0, sExtract_1, sUn_not, Bool.not_true, sIf_false, sNil_ptr, sFldA_ptr S.tfl_tree_inner_kids, sLoad_cell S.tcell_L_tree_node (hc.fst rfl), sLen_sl S.tel_L_tree_node hsl, List.length_map]
    refine LoopS.intro (fun us w5 => Ext w4 w5 ∧ ∃ m j' : Nat, us = [.int .i64 j', inv bk, .int .i64 m] ∧ m ≤ ks.length ∧ j = ((ks.take m).flatMap (·.2.2)).length + j' ∧ j' < ((ks.drop m).flatMap (·.2.2)).length)
      (fun us _ => match us with | [_, _, .int _ a] => (ks.length - a).toNat | _ => 0) ⟨Ext.refl _, 0, j, rfl, by omega, by simp, by simpa using hj⟩ ?_
    rintro us vs w5 ⟨e5, m, j', rfl, hm, hjj, hj'⟩
    unfold S.tree_Tree_At_L3
    rw [Go.Lift.hd, Go.Lift.tl, Go.Lift.hd, Go.Lift.tl, Go.Lift.hd, sBin_lss, sIf_dec]
    refine ⟨fun hlt => ?_, fun hge => ?_⟩
    · obtain ⟨t, ht'⟩ : ∃ t, ks[m]? = some t := ⟨_, List.getElem?_eq_getElem (by omega)⟩
      have hmem := List.mem_of_getElem? ht'
      obtain ⟨q4, hkt⟩ := hkd t hmem
      have htl := flat_mem_len hmem
      obtain ⟨b1, o1, hel1, hc1⟩ := (hsl.ext e5).el (kids_at ht')
      rw [sIdxA_sl S.tel_L_tree_node S.tsz_tree_node (by omega) (hsl.ext e5) (kids_at ht') rfl, hel1, sLoad_cell S.tcell_tree_node (hc1.fst rfl)]
      refine (sumOf_spec (hkt.ext e5)).mono ?_
      rintro u w6 ⟨e6, rfl⟩
      have E6 := e5.trans e6
      have hfl : (ks.take m).flatMap (·.2.2) ++ (t.2.2 ++ (ks.drop (m + 1)).flatMap (·.2.2)) = ks.flatMap (·.2.2) := by
        conv => rhs; rw [← List.take_append_drop m ks, drop_cons_of ht']
        rw [List.flatMap_append, List.flatMap_cons]
      have hdl : ((ks.drop m).flatMap (·.2.2)).length = t.2.2.length + ((ks.drop (m + 1)).flatMap (·.2.2)).length := by
        rw [drop_cons_of ht', List.flatMap_cons, List.length_append]
      rw [sumN, sBin_geq, sIf_dec]
      refine ⟨fun hge => ?_, fun hlt2 => ?_⟩
      · rw [sBin_sub _ _ ⟨by omega, by omega⟩, sBin_add _ _ ⟨by omega, by omega⟩]
        refine ⟨⟨E6, m + 1, j' - t.2.2.length, ?_, by omega, ?_, by omega⟩, by simp only []; omega⟩
        · simp; omega
        · rw [take_succ_of ht', List.flatMap_append, List.flatMap_singleton, List.length_append]; omega
      · refine ⟨h + 1, by omega, e4.trans E6, h, j', t.1, t.2.1, t.2.2, rfl, rfl, hkt.ext E6, by omega, by omega, ?_⟩
        rw [← hy, ← hfl, hjj, List.getElem?_append_right (by omega), Nat.add_sub_cancel_left, List.getElem?_append_left (by omega)]
    · obtain rfl : m = ks.length := by omega
      rw [List.drop_length] at hj'
      simp at hj'
end Go.Proofs.YtpjmmhbdondknaaDoor
