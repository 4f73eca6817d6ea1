/- Topmost nodes: joined, made of a row, split. Conditions: right items, not too many. -/
import Derived.Test.YtmlbaimdphillaaTj
namespace Go.Proofs.Ytmlbaimdphillaa
open Go Go.Lift Go.RowKit

/-- A topmost node, or none. -/
def Rt (w : World) (v : Value) (xs : List It) : Prop := (v = .nilIface ∧ xs = []) ∨ ∃ h k c, v = ndv k ∧ Nd w h k c xs
theorem Rt.ext {w w' : World} {v : Value} {xs : List It} (h : Rt w v xs) (e : Ext w w') : Rt w' v xs := by
  rcases h with h | ⟨h, k, c, rfl, hd⟩
  · exact .inl h
  · exact .inr ⟨h, k, c, rfl, hd.ext e⟩
theorem Rt.nil (w : World) : Rt w .nilIface [] := .inl ⟨rfl, rfl⟩
theorem Rt.or {w : World} {v : Value} {xs : List It} (h : Rt w v xs) : v = .nilIface ∨ ∃ A x, v = .iface A x := by
  rcases h with ⟨h, _⟩ | ⟨h, k, c, rfl, hd⟩
  · exact .inl h
  · exact ndv_or k
theorem Rt.nn {w : World} {v : Value} {xs : List It} (h : Rt w v xs) (hv : isNilI v = false) : ∃ h k c, v = ndv k ∧ Nd w h k c xs := by
  rcases h with ⟨rfl, _⟩ | h
  · cases hv
  · exact h
theorem Rt.isnil {w : World} {v : Value} {xs : List It} (h : Rt w v xs) (hv : isNilI v = true) : v = .nilIface ∧ xs = [] := by
  rcases h with h | ⟨h, k, c, rfl, hd⟩
  · exact h
  · rw [ndv_nn] at hv; cases hv
theorem Rt.shape {w : World} {v : Value} {xs : List It} (h : Rt w v xs) : v.cells = [v].toArray ∧ v.oneCell' = true := by
  rcases h with ⟨rfl, _⟩ | ⟨h, k, c, rfl, hd⟩
  · exact ⟨rfl, rfl⟩
  · obtain ⟨t, b⟩ := k; cases t <;> exact ⟨rfl, rfl⟩

theorem join_spec {w : World} {a b : Value} {xs ys : List It} (ha : Rt w a xs) (hb : Rt w b ys) (hg : Gd (xs ++ ys)) :
    sCall Try.prog S.tree_join.n [a, b] w fun u w' => Ext w w' ∧ Rt w' u (xs ++ ys) := by
  refine S.tree_join.call ?_
  unfold S.tree_join
  rw [sBin_nilI_eq S.tif_tree_node ha.or, sIf_bool]
  refine ⟨fun h1 => ?_, fun h1 => ?_⟩
  · obtain ⟨rfl, rfl⟩ := ha.isnil h1
    exact ⟨Ext.refl w, hb⟩
  rw [sBin_nilI_eq S.tif_tree_node hb.or, sIf_bool]
  refine ⟨fun h2 => ?_, fun h2 => ?_⟩
  · obtain ⟨rfl, rfl⟩ := hb.isnil h2
    rw [List.append_nil]
    exact ⟨Ext.refl w, ha⟩
  obtain ⟨h, k, c, rfl, hd⟩ := ha.nn h1
  obtain ⟨h', k', c', rfl, hd'⟩ := hb.nn h2
  refine (meld_spec _ (Nat.lt_succ_self _) hd hd' hg).mono ?_
  rintro u w1 ⟨e1, m, ⟨ks, s1, s2, s3, s4⟩, _, _⟩
  rw [sLen_sl S.tel_L_tree_node s1, List.length_map, sBin_eql, sIf_dec]
  refine ⟨fun h3 => ?_, fun h3 => ?_⟩
  · obtain ⟨t, rfl⟩ : ∃ t, ks = [t] := by
      rcases s4 with ⟨t, rfl, _⟩ | ⟨t, t', rfl, _⟩
      · exact ⟨t, rfl⟩
      · simp at h3
    obtain ⟨b1, o1, hel1, hc1⟩ := s1.el (i := 0) (x := t.1) rfl
    rw [sIdxA_sl (i := 0) (z := 0) (x := t.1) S.tel_L_tree_node S.tsz_tree_node (by omega) s1 rfl rfl, hel1, sLoad_cell S.tcell_tree_node (hc1.fst rfl)]
    rw [List.flatMap_singleton] at s2
    rw [← s2]
    exact ⟨e1, .inr ⟨_, t.1, t.2.1, rfl, s3 t (by simp)⟩⟩
  · obtain ⟨t, t', rfl, h4, h4'⟩ : ∃ t t' : Kd, ks = [t, t'] ∧ 4 ≤ t.2.1 ∧ 4 ≤ t'.2.1 := by
      rcases s4 with ⟨t, rfl, _⟩ | h
      · simp at h3
      · exact h
    refine (innerOf_spec (h := max h h') s1 (fun q hq => ⟨?_, s3 q hq⟩) (by rw [s2]; exact hg) (by simp) (by simp)).mono ?_
    · simp at hq; rcases hq with rfl | rfl <;> assumption
    rintro u w2 ⟨e2, b, rfl, hd2⟩
    rw [sIface_mk S.tcq_P_tree_inner]
    rw [s2] at hd2
    exact ⟨e1.trans e2, .inr ⟨_, (false, b), _, rfl, hd2⟩⟩

theorem row_spec {w : World} {l : Value} {ks : List Kd} {h : Nat} (hl : Sl w l 1 encK (ks.map (·.1))) (hk : ∀ t ∈ ks, 4 ≤ t.2.1 ∧ Nd w h t.1 t.2.1 t.2.2) (hg : Gd (ks.flatMap (·.2.2))) (h8 : ks.length ≤ 8) :
    sCall Try.prog S.tree_row.n [l] w fun u w' => Ext w w' ∧ Rt w' u (ks.flatMap (·.2.2)) := by
  refine S.tree_row.call ?_
  unfold S.tree_row
  rw [sLen_sl S.tel_L_tree_node hl, List.length_map, sBin_eql, sIf_dec]
  refine ⟨fun h0 => ?_, fun h0 => ?_⟩
  · obtain rfl : ks = [] := List.eq_nil_of_length_eq_zero (by omega)
    exact ⟨Ext.refl w, Rt.nil w⟩
  rw [sBin_eql, sIf_dec]
  refine ⟨fun h1 => ?_, fun h1 => ?_⟩
  · obtain ⟨t, rfl⟩ : ∃ t, ks = [t] := by
      match ks, h1 with
      | [t], _ => exact ⟨t, rfl⟩
    obtain ⟨b1, o1, hel1, hc1⟩ := hl.el (i := 0) (x := t.1) rfl
    rw [sIdxA_sl (i := 0) (z := 0) (x := t.1) S.tel_L_tree_node S.tsz_tree_node (by omega) hl rfl rfl, hel1, sLoad_cell S.tcell_tree_node (hc1.fst rfl), List.flatMap_singleton]
    exact ⟨Ext.refl w, .inr ⟨_, t.1, t.2.1, rfl, (hk t (by simp)).2⟩⟩
  · refine (innerOf_spec hl hk hg (by omega) h8).mono ?_
    rintro u w2 ⟨e2, b, rfl, hd2⟩
    rw [sIface_mk S.tcq_P_tree_inner]
    exact ⟨e2, .inr ⟨_, (false, b), _, rfl, hd2⟩⟩

theorem split_nd : ∀ (h : Nat) {w : World} {k : Nv} {c : Nat} {xs : List It} {at_ : Int}, Nd w h k c xs → Gd xs → I64 at_ →
    sCall Try.prog S.tree_split.n [ndv k, .int .i64 at_] w fun u w' => Ext w w' ∧ ∃ a b, u = .tuple #[a, b] ∧ Rt w' a (xs.take at_.toNat) ∧ Rt w' b (xs.drop at_.toNat) := by
  intro h
  induction h with
  | zero =>
    intro w k c xs at_ hd hg hat
    refine S.tree_split.call ?_
    unfold S.tree_split
    have hd0 := hd
    obtain ⟨b, s, rfl, k1, k8, rfl, hc, hsl⟩ := nd_leaf hd
    have hcap := sl_cap hsl
    rw [ndv_t, sAssert_yes S.tcq_P_tree_leaf, sExtract_1, sExtract_0, sIf_true, sBin_leq, sIf_dec]
    refine ⟨fun h0 => ?_, fun h0 => ?_⟩
    · rw [sIface_mk S.tcq_P_tree_leaf, show at_.toNat = 0 from by omega]
      exact ⟨Ext.refl w, _, _, rfl, Rt.nil w, .inr ⟨0, (true, b), _, rfl, hd0⟩⟩
    rw [sNil_ptr, sFldA_ptr S.tfl_tree_leaf_items, sLoad_cell S.tcell_L_item_Item (hc.fst rfl), sLen_sl S.tel_L_item_Item hsl, sBin_geq, sIf_dec]
    refine ⟨fun h1 => ?_, fun h1 => ?_⟩
    · rw [sIface_mk S.tcq_P_tree_leaf, List.take_of_length_le (by omega), List.drop_of_length_le (by omega)]
      exact ⟨Ext.refl w, _, _, rfl, .inr ⟨0, (true, b), _, rfl, hd0⟩, Rt.nil w⟩
    obtain ⟨n, rfl⟩ : ∃ n : Nat, at_ = n := ⟨at_.toNat, by omega⟩
    rw [Int.toNat_natCast]
    refine DrawS.ext ?_
    have E : Ext w w.drew := (Ext.refl w).drew
    rw [sNil_ptr, stillS_eq (fun w1 h1 K => sFldA_ptr S.tfl_tree_leaf_items) E, stillS_cell S.tcell_L_item_Item (hc.fst rfl) E,
      stillS_eq (fun w1 h1 K => sSlice_hm S.tel_L_item_Item S.tsz_item_Item (by omega) (hsl.ext h1) rfl rfl (by omega) (by omega)) E,
      sNil_ptr, stillS_eq (fun w1 h1 K => sFldA_ptr S.tfl_tree_leaf_items) E, stillS_cell S.tcell_L_item_Item (hc.fst rfl) E,
      stillS_eq (fun w1 h1 K => sSlice_l S.tel_L_item_Item S.tsz_item_Item (by omega) (hsl.ext h1) rfl (by omega)) E]
    have p1 : Sl w (slV (sv s) 7 0 n n) 7 encT (xs.take n) := by
      simpa using hsl.part (lo := 0) (hi := n) (mx := n) (by omega) (by omega) (by omega) (by omega)
    have p2 : Sl w (slV (sv s) 7 n xs.length (capV (sv s))) 7 encT (xs.drop n) := by
      simpa using hsl.part (lo := n) (hi := xs.length) (mx := capV (sv s)) (by omega) (by omega) (by omega) (by omega)
    have l1 : (xs.take n).length = n := by rw [List.length_take]; omega
    have l2 : (xs.drop n).length = xs.length - n := by rw [List.length_drop]
    refine (leafOf_spec (p1.ext E) (hg.take _) (by omega) (by omega)).mono ?_
    rintro u w1 ⟨e1, b, rfl, hd1⟩
    have F1 := E.trans e1
    refine ⟨F1, ?_⟩
    rw [stillS_eq (fun w1 h1 K => sIface_mk S.tcq_P_tree_leaf) F1]
    refine (leafOf_spec (p2.ext F1) (hg.drop _) (by omega) (by omega)).mono ?_
    rintro u w2 ⟨e2, b', rfl, hd2⟩
    have F2 := F1.trans e2
    refine ⟨F2, ?_⟩
    rw [stillS_eq (fun w1 h1 K => sIface_mk S.tcq_P_tree_leaf) F2]
    exact ⟨F2, _, _, rfl, .inr ⟨0, (true, b), _, rfl, hd1.ext e2⟩, .inr ⟨0, (true, b'), _, rfl, hd2⟩⟩
  | succ h ih =>
    intro w k c xs at_ hd hg hat
    refine S.tree_split.call ?_
    unfold S.tree_split
    have hd0 := hd
    obtain ⟨b, s, ks, rfl, k2, k8, rfl, hc, hsl, rfl, hk⟩ := nd_inner hd
    have hcap := sl_cap hsl
    rw [List.length_map] at hcap
    obtain ⟨z, hz⟩ := sAssert_no (P := Try.prog) (T := S.T.tree_node) (v := .pointer (some ⟨b, 0, none⟩)) (B := S.T.P_tree_inner) S.tcq_P_tree_leaf (by decide)
    rw [ndv_f, hz, sExtract_1, sExtract_0, sIf_false, sAssert_yes S.tcq_P_tree_inner, sExtract_1, sExtract_0, sIf_true, sNil_ptr, sFldA_ptr S.tfl_tree_inner_kids, sLoad_cell S.tcell_L_tree_node (hc.fst rfl), sLen_sl S.tel_L_tree_node hsl, List.length_map]
    refine LoopS.intro (fun us w1 => Ext w w1 ∧ ∃ i : Nat, us = [.int .i64 (at_ - ((ks.take i).flatMap (·.2.2)).length), .int .i64 i] ∧ i ≤ ks.length ∧ (0 < i → ((ks.take i).flatMap (·.2.2)).length < at_))
      (fun us _ => match us with | [_, .int _ a] => (ks.length - a).toNat | _ => 0) ⟨Ext.refl w, 0, by simp, by omega, by omega⟩ ?_
    rintro us vs w1 ⟨e1, i, rfl, hi, hat2⟩
    unfold S.tree_split_L1
    rw [Go.Lift.hd, Go.Lift.tl, Go.Lift.hd, sBin_lss, sIf_dec]
    refine ⟨fun hlt => ?_, fun hge => ?_⟩
    · obtain ⟨t, ht⟩ : ∃ t, ks[i]? = some t := ⟨_, List.getElem?_eq_getElem (by omega)⟩
      have hm := List.mem_of_getElem? ht
      obtain ⟨q4, hkt⟩ := hk t hm
      have hgt := hg.kid hm
      have hgn := hg.n
      have hfl : (ks.take i).flatMap (·.2.2) ++ (t.2.2 ++ (ks.drop (i + 1)).flatMap (·.2.2)) = ks.flatMap (·.2.2) := by
        conv => rhs; rw [← List.take_append_drop i ks, drop_cons_of ht]
        rw [List.flatMap_append, List.flatMap_cons]
      have hln := congrArg List.length hfl
      rw [List.length_append, List.length_append] at hln
      have hP : (((ks.take i).flatMap (·.2.2)).length : Int) < at_ ∨ ((ks.take i).flatMap (·.2.2)).length = 0 := by
        rcases Nat.eq_zero_or_pos i with h0 | h0
        · subst h0; exact .inr rfl
        · exact .inl (hat2 h0)
      obtain ⟨b1, o1, hel1, hc1⟩ := (hsl.ext e1).el (kids_at ht)
      rw [sIdxA_sl S.tel_L_tree_node S.tsz_tree_node (by omega) (hsl.ext e1) (kids_at ht) rfl, hel1, sLoad_cell S.tcell_tree_node (hc1.fst rfl)]
      refine (sumOf_spec (hkt.ext e1)).mono ?_
      rintro u w2 ⟨e2, rfl⟩
      have E2 := e1.trans e2
      have hN : (allS t.2.2).n = t.2.2.length := allS_n _
      rw [sFld_cell S.tfd_item_Sum_N S.tcell_int (v := .int .i64 t.2.2.length) (by rw [← hN]; rfl), sBin_leq, sIf_dec]
      refine ⟨fun hle => ?_, fun hgt2 => ?_⟩
      · refine (ih (hkt.ext E2) hgt ⟨by omega, by omega⟩).mono ?_
        rintro u w3 ⟨e3, a, b', rfl, ra, rb⟩
        have E3 := E2.trans e3
        rw [sExtract_0, sExtract_1]
        refine DrawS.ext ?_
        have E : Ext w3 w3.drew := (Ext.refl w3).drew
        have hc3 := hc.ext E3
        have hs3 := hsl.ext E3
        rw [sNil_ptr, stillS_eq (fun w1 h1 K => sFldA_ptr S.tfl_tree_inner_kids) E, stillS_cell S.tcell_L_tree_node (hc3.fst rfl) E,
          stillS_eq (fun w1 h1 K => sSlice_hm (hi := i) (mx := i) S.tel_L_tree_node S.tsz_tree_node (by omega) (hs3.ext h1) rfl rfl (by omega) (by omega)) E,
          sNil_ptr, stillS_eq (fun w1 h1 K => sFldA_ptr S.tfl_tree_inner_kids) E, stillS_cell S.tcell_L_tree_node (hc3.fst rfl) E,
          stillS_eq (fun w1 h1 K => sBin_add _ _ ⟨by omega, by omega⟩) E,
          stillS_eq (fun w1 h1 K => sSlice_l (lo := i + 1) S.tel_L_tree_node S.tsz_tree_node (by omega) (hs3.ext h1) (by omega) (by rw [List.length_map]; omega)) E, List.length_map]
        have p1 : Sl w3 (slV (sv s) 1 0 i i) 1 encK ((ks.take i).map (·.1)) := by
          simpa using kids_part hs3 (lo := 0) (hi := i) (mx := i) (by omega) (by omega) (by omega) (by omega)
        have p2 : Sl w3 (slV (sv s) 1 (i + 1) ks.length (capV (sv s))) 1 encK ((ks.drop (i + 1)).map (·.1)) := by
          have := kids_part hs3 (lo := i + 1) (hi := ks.length) (mx := capV (sv s)) (by omega) (by omega) (by omega) (by omega)
          rwa [List.take_length] at this
        have hn' : at_.toNat = ((ks.take i).flatMap (·.2.2)).length + (at_ - ((ks.take i).flatMap (·.2.2)).length).toNat := by
          rcases Nat.eq_zero_or_pos i with h0 | h0
          · subst h0; simp
          · have := hat2 h0; omega
        generalize hA' : (at_ - ((ks.take i).flatMap (·.2.2)).length).toNat = n' at ra rb hn'
        have hn8 : n' ≤ t.2.2.length := by omega
        have T1 : (ks.flatMap (·.2.2)).take at_.toNat = (ks.take i).flatMap (·.2.2) ++ t.2.2.take n' := by
          rw [hn', ← hfl, List.take_length_add_append, List.take_append_of_le_length hn8]
        have T2 : (ks.flatMap (·.2.2)).drop at_.toNat = t.2.2.drop n' ++ (ks.drop (i + 1)).flatMap (·.2.2) := by
          rw [hn', ← hfl, List.drop_length_add_append, List.drop_append_of_le_length hn8]
        have g1 : Gd ((ks.take i).flatMap (·.2.2) ++ t.2.2.take n') := by rw [← T1]; exact hg.take _
        have g2 : Gd (t.2.2.drop n' ++ (ks.drop (i + 1)).flatMap (·.2.2)) := by rw [← T2]; exact hg.drop _
        refine (row_spec (h := h) (p1.ext E) (fun q hq => ⟨(hk q (List.mem_of_mem_take hq)).1, (hk q (List.mem_of_mem_take hq)).2.ext (E3.trans E)⟩) (g1.sub (fun x hx => List.mem_append_left _ hx) (by simp)) (by rw [List.length_take]; omega)).mono ?_
        rintro u w4 ⟨e4, r4⟩
        have F4 := E.trans e4
        refine ⟨F4, ?_⟩
        refine (join_spec r4 (ra.ext F4) g1).mono ?_
        rintro u w5 ⟨e5, r5⟩
        have F5 := F4.trans e5
        refine ⟨F5, ?_⟩
        refine (row_spec (h := h) (p2.ext F5) (fun q hq => ⟨(hk q (List.mem_of_mem_drop hq)).1, (hk q (List.mem_of_mem_drop hq)).2.ext (E3.trans F5)⟩) (g2.sub (fun x hx => List.mem_append_right _ hx) (by simp)) (by rw [List.length_drop]; omega)).mono ?_
        rintro u w6 ⟨e6, r6⟩
        have F6 := F5.trans e6
        refine ⟨F6, ?_⟩
        refine (join_spec (rb.ext F6) r6 g2).mono ?_
        rintro u w7 ⟨e7, r7⟩
        have F7 := F6.trans e7
        refine ⟨F7, E3.trans F7, _, _, rfl, ?_, ?_⟩
        · rw [T1]; exact (r5.ext e6).ext e7
        · rw [T2]; exact r7
      · rw [sBin_sub _ _ ⟨by omega, by omega⟩, sBin_add _ _ ⟨by omega, by omega⟩]
        have htk : ((ks.take (i + 1)).flatMap (·.2.2)).length = ((ks.take i).flatMap (·.2.2)).length + t.2.2.length := by
          rw [take_succ_of ht, List.flatMap_append, List.flatMap_singleton, List.length_append]
        refine ⟨⟨E2, i + 1, by rw [htk]; simp; omega, by omega, fun _ => by rw [htk]; omega⟩, by simp only []; omega⟩
    · obtain rfl : i = ks.length := by omega
      rw [List.take_length] at hat2
      have := hat2 (by omega)
      rw [sIface_mk S.tcq_P_tree_inner]
      refine ⟨e1, _, _, rfl, ?_, ?_⟩
      · rw [List.take_of_length_le (by omega)]
        exact .inr ⟨_, (false, b), _, rfl, hd0.ext e1⟩
      · rw [List.drop_of_length_le (by omega)]
        exact Rt.nil w1
theorem split_spec {w : World} {v : Value} {xs : List It} {at_ : Int} (hr : Rt w v xs) (hg : Gd xs) (hat : I64 at_) :
    sCall Try.prog S.tree_split.n [v, .int .i64 at_] w fun u w' => Ext w w' ∧ ∃ a b, u = .tuple #[a, b] ∧ Rt w' a (xs.take at_.toNat) ∧ Rt w' b (xs.drop at_.toNat) := by
  rcases hr with ⟨rfl, rfl⟩ | ⟨h, k, c, rfl, hd⟩
  · refine S.tree_split.call ?_
    unfold S.tree_split
    obtain ⟨z, hz⟩ := sAssert_nil (P := Try.prog) (T := S.T.tree_node) S.tcq_P_tree_leaf
    obtain ⟨z2, hz2⟩ := sAssert_nil (P := Try.prog) (T := S.T.tree_node) S.tcq_P_tree_inner
    rw [hz, sExtract_1, sExtract_0, sIf_false, hz2, sExtract_1, sExtract_0, sIf_false, List.take_nil, List.drop_nil]
    exact ⟨Ext.refl w, _, _, rfl, Rt.nil w, Rt.nil w⟩
  · exact split_nd h hd hg hat
end Go.Proofs.Ytmlbaimdphillaa
