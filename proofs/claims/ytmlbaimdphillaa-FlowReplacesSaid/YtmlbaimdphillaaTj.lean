/- Rows of nodes: put together, halved, melded, joined. Conditions: right items, not too many. -/
import Derived.Test.YtmlbaimdphillaaTn
namespace Go.Proofs.Ytmlbaimdphillaa
open Go Go.Lift Go.RowKit

theorem put_spec {w : World} {a b : Value} {xs ys : List Nv} (ha : Sl w a 1 encK xs) (hb : Sl w b 1 encK ys) (h : xs.length + ys.length ≤ 1000) :
    sCall Try.prog S.tree_put.n [a, b] w fun u w' => Ext w w' ∧ Sl w' u 1 encK (xs ++ ys) := by
  refine S.tree_put.call ?_
  unfold S.tree_put
  have hmx : maxLen = 9223372036854775807 := rfl
  rw [sLen_sl S.tel_L_tree_node ha, sLen_sl S.tel_L_tree_node hb, sBin_add _ _ ⟨by omega, by omega⟩]
  refine sMake_own (enc := encK) (c := xs.length + ys.length) S.tel_L_tree_node S.tsz_tree_node S.tze_tree_node (by omega) (by rw [S.tby_tree_node]; omega) (by omega) fun v w1 hv e1 => ?_
  refine sAppend_own S.tel_L_tree_node S.tsz_tree_node (by decide) S.tze_tree_node rfl encK_ok hv e1.size (ha.ext e1) (by simp; omega) (by rw [S.tby_tree_node]; simp; omega) fun v2 w2 hv2 hg2 => ?_
  have e2 : Ext w w2 := e1.wr hg2 fun g hg => (hv.lt g hg).1
  refine sAppend_own S.tel_L_tree_node S.tsz_tree_node (by decide) S.tze_tree_node rfl encK_ok hv2 e2.size (hb.ext e2) (by simp; omega) (by rw [S.tby_tree_node]; simp; omega) fun v3 w3 hv3 hg3 => ?_
  have e3 : Ext w w3 := e2.wr hg3 fun g hg => (hv2.lt g hg).1
  exact ⟨e3, by simpa using hv3.sl encK_ok⟩

/-- One or two nodes; one has so many at least, two have four each at least. -/
def Two (w : World) (h : Nat) (u : Value) (m : Nat) (xs : List It) : Prop :=
  ∃ ks : List Kd, Sl w u 1 encK (ks.map (·.1)) ∧ ks.flatMap (·.2.2) = xs ∧ (∀ t ∈ ks, Nd w h t.1 t.2.1 t.2.2) ∧ ((∃ t, ks = [t] ∧ m ≤ t.2.1) ∨ ∃ t t' : Kd, ks = [t, t'] ∧ 4 ≤ t.2.1 ∧ 4 ≤ t'.2.1)

theorem spread_spec {w : World} {l : Value} {xs : List It} (hl : Sl w l 7 encT xs) (hg : Gd xs) (h1 : 1 ≤ xs.length) (h16 : xs.length ≤ 16) :
    sCall Try.prog S.tree_spread.n [l] w fun u w' => Ext w w' ∧ Two w' 0 u xs.length xs := by
  refine S.tree_spread.call ?_
  unfold S.tree_spread
  rw [sLen_sl S.tel_L_item_Item hl, sBin_leq, sIf_dec]
  refine ⟨fun h8 => ?_, fun h8 => ?_⟩
  · refine (leafOf_spec hl hg h1 (by omega)).mono ?_
    rintro u w1 ⟨e1, b, rfl, hd⟩
    rw [sIface_mk S.tcq_P_tree_leaf]
    refine sBuildSlice_own (enc := encK) (xs := [(true, b)]) (lp := [(0, [lfv b])]) S.tel_L_tree_node S.tsz_tree_node rfl S.tze_tree_node (by decide) (by decide) encK_ok rfl rfl fun v w2 hv ho he hs => ?_
    exact ⟨e1.trans he, [((true, b), xs.length, xs)], ho.sl encK_ok, by simp, fun t ht => by simp at ht; subst ht; exact hd.ext he, .inl ⟨_, rfl, Nat.le_refl _⟩⟩
  · have hcap := sl_cap hl
    rw [sLen_sl S.tel_L_item_Item hl, sBin_quo _ _ (by omega) (by omega) (by omega)]
    refine DrawS.ext ?_
    have E : Ext w w.drew := (Ext.refl w).drew
    have hm : ((xs.length : Int) / 2) = ((xs.length / 2 : Nat) : Int) := by omega
    rw [stillS_eq (fun w1 h1 K => sSlice_hm S.tel_L_item_Item S.tsz_item_Item (by omega) (hl.ext h1) hm hm (by omega) (by omega)) E,
      stillS_eq (fun w1 h1 K => sSlice_l S.tel_L_item_Item S.tsz_item_Item (by omega) (hl.ext h1) hm (by omega)) E]
    have p1 : Sl w (slV l 7 0 (xs.length / 2) (xs.length / 2)) 7 encT (xs.take (xs.length / 2)) := by
      simpa using hl.part (lo := 0) (hi := xs.length / 2) (mx := xs.length / 2) (by omega) (by omega) (by omega) (by omega)
    have p2 : Sl w (slV l 7 (xs.length / 2) xs.length (capV l)) 7 encT (xs.drop (xs.length / 2)) := by
      simpa using hl.part (lo := xs.length / 2) (hi := xs.length) (mx := capV l) (by omega) (by omega) (by omega) (by omega)
    have l1 : (xs.take (xs.length / 2)).length = xs.length / 2 := by rw [List.length_take]; omega
    have l2 : (xs.drop (xs.length / 2)).length = xs.length - xs.length / 2 := by rw [List.length_drop]
    refine (leafOf_spec (p1.ext E) (hg.take _) (by omega) (by omega)).mono ?_
    rintro u w1 ⟨e1, b, rfl, hd1⟩
    have F1 := E.trans e1
    refine ⟨F1, ?_⟩
    rw [stillS_eq (fun w1 h1 K => sIface_mk S.tcq_P_tree_leaf) F1]
    refine (leafOf_spec (p2.ext F1) (hg.drop _) (by omega) (by omega)).mono ?_
    rintro u w2 ⟨e2, b', rfl, hd2⟩
    have F2 := F1.trans e2
    refine ⟨F2, ?_⟩
    rw [stillS_eq (fun w1 h1 K => sIface_mk S.tcq_P_tree_leaf) F2]
    refine sBuildSlice_own (enc := encK) (xs := [(true, b), (true, b')]) (lp := [(0, [lfv b]), (1, [lfv b'])]) S.tel_L_tree_node S.tsz_tree_node rfl S.tze_tree_node (by decide) (by decide) encK_ok rfl rfl fun v w3 hv ho he hs => ?_
    have F3 := F2.trans he
    refine ⟨F3, F3, [((true, b), (xs.take (xs.length / 2)).length, xs.take (xs.length / 2)), ((true, b'), (xs.drop (xs.length / 2)).length, xs.drop (xs.length / 2))], ho.sl encK_ok, by simp, fun t ht => ?_, .inr ⟨_, _, rfl, by dsimp only; omega, by dsimp only; omega⟩⟩
    simp only [List.mem_cons, List.not_mem_nil, or_false] at ht
    rcases ht with rfl | rfl
    · exact (hd1.ext e2).ext he
    · exact hd2.ext he

theorem kids_part {ks : List Kd} {w : World} {v : Value} (hl : Sl w v 1 encK (ks.map (·.1))) {lo hi mx : Nat} (h1 : lo ≤ hi) (h2 : hi ≤ ks.length) (h3 : hi ≤ mx) (h4 : mx ≤ capV v) : Sl w (slV v 1 lo hi mx) 1 encK (((ks.take hi).drop lo).map (·.1)) := by
  have := hl.part (lo := lo) (hi := hi) (mx := mx) h1 (by simpa using h2) h3 h4
  rwa [← List.map_take, ← List.map_drop] at this
theorem raise_spec {w : World} {l : Value} {ks : List Kd} {h : Nat} (hl : Sl w l 1 encK (ks.map (·.1))) (hk : ∀ t ∈ ks, 4 ≤ t.2.1 ∧ Nd w h t.1 t.2.1 t.2.2) (hg : Gd (ks.flatMap (·.2.2))) (h1 : 2 ≤ ks.length) (h16 : ks.length ≤ 16) :
    sCall Try.prog S.tree_raise.n [l] w fun u w' => Ext w w' ∧ Two w' (h + 1) u ks.length (ks.flatMap (·.2.2)) := by
  refine S.tree_raise.call ?_
  unfold S.tree_raise
  rw [sLen_sl S.tel_L_tree_node hl, List.length_map, sBin_leq, sIf_dec]
  refine ⟨fun h8 => ?_, fun h8 => ?_⟩
  · refine (innerOf_spec hl hk hg h1 (by omega)).mono ?_
    rintro u w1 ⟨e1, b, rfl, hd⟩
    rw [sIface_mk S.tcq_P_tree_inner]
    refine sBuildSlice_own (enc := encK) (xs := [(false, b)]) (lp := [(0, [inv b])]) S.tel_L_tree_node S.tsz_tree_node rfl S.tze_tree_node (by decide) (by decide) encK_ok rfl rfl fun v w2 hv ho he hs => ?_
    exact ⟨e1.trans he, [((false, b), ks.length, ks.flatMap (·.2.2))], ho.sl encK_ok, by simp, fun t ht => by simp at ht; subst ht; exact hd.ext he, .inl ⟨_, rfl, Nat.le_refl _⟩⟩
  · have hcap := sl_cap hl
    rw [List.length_map] at hcap
    rw [sLen_sl S.tel_L_tree_node hl, List.length_map, sBin_quo _ _ (by omega) (by omega) (by omega)]
    refine DrawS.ext ?_
    have E : Ext w w.drew := (Ext.refl w).drew
    have hm : ((ks.length : Int) / 2) = ((ks.length / 2 : Nat) : Int) := by omega
    rw [stillS_eq (fun w1 h1 K => sSlice_hm S.tel_L_tree_node S.tsz_tree_node (by omega) (hl.ext h1) hm hm (by omega) (by omega)) E,
      stillS_eq (fun w1 h1 K => sSlice_l S.tel_L_tree_node S.tsz_tree_node (by omega) (hl.ext h1) hm (by rw [List.length_map]; omega)) E, List.length_map]
    have p1 : Sl w (slV l 1 0 (ks.length / 2) (ks.length / 2)) 1 encK ((ks.take (ks.length / 2)).map (·.1)) := by
      simpa using kids_part hl (lo := 0) (hi := ks.length / 2) (mx := ks.length / 2) (by omega) (by omega) (by omega) (by omega)
    have p2 : Sl w (slV l 1 (ks.length / 2) ks.length (capV l)) 1 encK ((ks.drop (ks.length / 2)).map (·.1)) := by
      have := kids_part hl (lo := ks.length / 2) (hi := ks.length) (mx := capV l) (by omega) (by omega) (by omega) (by omega)
      rwa [List.take_length] at this
    have l1 : (ks.take (ks.length / 2)).length = ks.length / 2 := by rw [List.length_take]; omega
    have l2 : (ks.drop (ks.length / 2)).length = ks.length - ks.length / 2 := by rw [List.length_drop]
    have hfl : (ks.take (ks.length / 2)).flatMap (·.2.2) ++ (ks.drop (ks.length / 2)).flatMap (·.2.2) = ks.flatMap (·.2.2) := by rw [← List.flatMap_append, List.take_append_drop]
    have hln := congrArg List.length hfl
    rw [List.length_append] at hln
    have g1 : Gd ((ks.take (ks.length / 2)).flatMap (·.2.2)) := hg.sub (fun x hx => by rw [← hfl]; exact List.mem_append_left _ hx) (by omega)
    have g2 : Gd ((ks.drop (ks.length / 2)).flatMap (·.2.2)) := hg.sub (fun x hx => by rw [← hfl]; exact List.mem_append_right _ hx) (by omega)
    refine (innerOf_spec (p1.ext E) (fun t ht => ⟨(hk t (List.mem_of_mem_take ht)).1, (hk t (List.mem_of_mem_take ht)).2.ext E⟩) g1 (by omega) (by omega)).mono ?_
    rintro u w1 ⟨e1, b, rfl, hd1⟩
    have F1 := E.trans e1
    refine ⟨F1, ?_⟩
    rw [stillS_eq (fun w1 h1 K => sIface_mk S.tcq_P_tree_inner) F1]
    refine (innerOf_spec (p2.ext F1) (fun t ht => ⟨(hk t (List.mem_of_mem_drop ht)).1, (hk t (List.mem_of_mem_drop ht)).2.ext F1⟩) g2 (by omega) (by omega)).mono ?_
    rintro u w2 ⟨e2, b', rfl, hd2⟩
    have F2 := F1.trans e2
    refine ⟨F2, ?_⟩
    rw [stillS_eq (fun w1 h1 K => sIface_mk S.tcq_P_tree_inner) F2]
    refine sBuildSlice_own (enc := encK) (xs := [(false, b), (false, b')]) (lp := [(0, [inv b]), (1, [inv b'])]) S.tel_L_tree_node S.tsz_tree_node rfl S.tze_tree_node (by decide) (by decide) encK_ok rfl rfl fun v w3 hv ho he hs => ?_
    have F3 := F2.trans he
    refine ⟨F3, F3, [((false, b), (ks.take (ks.length / 2)).length, (ks.take (ks.length / 2)).flatMap (·.2.2)), ((false, b'), (ks.drop (ks.length / 2)).length, (ks.drop (ks.length / 2)).flatMap (·.2.2))], ho.sl encK_ok, by simpa using hfl, fun t ht => ?_, .inr ⟨_, _, rfl, by dsimp only; omega, by dsimp only; omega⟩⟩
    simp only [List.mem_cons, List.not_mem_nil, or_false] at ht
    rcases ht with rfl | rfl
    · exact (hd1.ext e2).ext he
    · exact hd2.ext he

theorem Two.all4 {w : World} {h m : Nat} {u : Value} {xs : List It} (ht : Two w h u m xs) (hm : 4 ≤ m) : ∃ ks : List Kd, Sl w u 1 encK (ks.map (·.1)) ∧ ks.flatMap (·.2.2) = xs ∧ (∀ t ∈ ks, 4 ≤ t.2.1 ∧ Nd w h t.1 t.2.1 t.2.2) ∧ 1 ≤ ks.length ∧ ks.length ≤ 2 := by
  obtain ⟨ks, h1, h2, h3, h4⟩ := ht
  refine ⟨ks, h1, h2, fun t ht => ⟨?_, h3 t ht⟩, ?_⟩
  · rcases h4 with ⟨q, rfl, hq⟩ | ⟨q, q', rfl, hq, hq'⟩
    · simp at ht; subst ht; omega
    · simp at ht; rcases ht with rfl | rfl <;> omega
  · rcases h4 with ⟨q, rfl, hq⟩ | ⟨q, q', rfl, hq, hq'⟩ <;> simp

theorem nd_inner {w : World} {h : Nat} {k : Nv} {c : Nat} {xs : List It} (hd : Nd w (h + 1) k c xs) : ∃ (b : Nat) (s : SV) (ks : List Kd), k = (false, b) ∧ 2 ≤ ks.length ∧ ks.length ≤ 8 ∧ ks.length = c ∧ Cells w b 0 (sv s :: .int .i64 ((h : Int) + 2) :: encS (allS xs)) ∧ Sl w (sv s) 1 encK (ks.map (·.1)) ∧ xs = ks.flatMap (·.2.2) ∧ ∀ t ∈ ks, 4 ≤ t.2.1 ∧ Nd w h t.1 t.2.1 t.2.2 := by
  obtain ⟨h1, h2, h3, s, ks, h4, h5, h6, h7, h8⟩ := hd
  obtain ⟨t, b⟩ := k
  obtain rfl : t = false := h1
  exact ⟨b, s, ks, rfl, by omega, by omega, h6, h4, h5, h7, h8⟩
theorem nd_leaf {w : World} {k : Nv} {c : Nat} {xs : List It} (hd : Nd w 0 k c xs) : ∃ (b : Nat) (s : SV), k = (true, b) ∧ 1 ≤ xs.length ∧ xs.length ≤ 8 ∧ xs.length = c ∧ Cells w b 0 (sv s :: encS (allS xs)) ∧ Sl w (sv s) 7 encT xs := by
  obtain ⟨h1, h2, h3, h4, s, h5, h6⟩ := hd
  obtain ⟨t, b⟩ := k
  obtain rfl : t = true := h1
  exact ⟨b, s, rfl, by omega, by omega, h2.symm, h5, h6⟩

theorem meld_spec : ∀ (n : Nat) {w : World} {ha hb : Nat} {ka kb : Nv} {ca cb : Nat} {xa xb : List It}, ha + hb < n → Nd w ha ka ca xa → Nd w hb kb cb xb → Gd (xa ++ xb) →
    sCall Try.prog S.tree_meld.n [ndv ka, ndv kb] w fun u w' => Ext w w' ∧ ∃ m, Two w' (max ha hb) u m (xa ++ xb) ∧ (hb ≤ ha → ca ≤ m) ∧ (ha ≤ hb → cb ≤ m) := by
  intro n
  induction n with
  | zero => intro w ha hb ka kb ca cb xa xb hn; omega
  | succ n ih =>
    intro w ha hb ka kb ca cb xa xb hn hA hB hg
    have gA : Gd xa := hg.sub (fun x hx => List.mem_append_left _ hx) (by simp)
    have gB : Gd xb := hg.sub (fun x hx => List.mem_append_right _ hx) (by simp)
    have hhA := hA.high gA.n
    have hhB := hB.high gB.n
    refine S.tree_meld.call ?_
    unfold S.tree_meld
    refine (heightOf_spec hA).mono ?_
    rintro u w ⟨rfl, rfl⟩
    refine (heightOf_spec hB).mono ?_
    rintro u w ⟨rfl, rfl⟩
    rw [sBin_gtr, sIf_dec]
    refine ⟨fun hgt => ?_, fun hle => ?_⟩
    · obtain ⟨h, rfl⟩ : ∃ h, ha = h + 1 := ⟨ha - 1, by omega⟩
      obtain ⟨b, s, ks, rfl, k2, k8, rfl, hc, hsl, rfl, hk⟩ := nd_inner hA
      have hcap := sl_cap hsl
      rw [List.length_map] at hcap
      rw [ndv_f, sAssert_is S.tcq_P_tree_inner, sNil_ptr, sFldA_ptr S.tfl_tree_inner_kids, sLoad_cell S.tcell_L_tree_node (hc.fst rfl), sLen_sl S.tel_L_tree_node hsl, List.length_map, sBin_sub _ _ ⟨by omega, by omega⟩]
      obtain ⟨t, ht⟩ : ∃ t, ks[ks.length - 1]? = some t := ⟨_, List.getElem?_eq_getElem (by omega)⟩
      obtain ⟨q4, hkt⟩ := hk t (List.mem_of_getElem? ht)
      have hm1 : ((ks.length : Int) - 1) = ((ks.length - 1 : Nat) : Int) := by omega
      obtain ⟨b1, o1, hel1, hc1⟩ := hsl.el (kids_at ht)
      refine DrawS.ext ?_
      have E : Ext w w.drew := (Ext.refl w).drew
      rw [sNil_ptr, stillS_eq (fun w1 h1 K => sFldA_ptr S.tfl_tree_inner_kids) E, stillS_cell S.tcell_L_tree_node (hc.fst rfl) E,
        stillS_eq (fun w1 h1 K => sSlice_h S.tel_L_tree_node S.tsz_tree_node (by omega) (hsl.ext h1) hm1 (by rw [List.length_map]; omega)) E,
        sNil_ptr, stillS_eq (fun w1 h1 K => sFldA_ptr S.tfl_tree_inner_kids) E, stillS_cell S.tcell_L_tree_node (hc.fst rfl) E,
        stillS_eq (fun w1 h1 K => sIdxA_sl S.tel_L_tree_node S.tsz_tree_node (by omega) (hsl.ext h1) (kids_at ht) hm1) E, hel1, stillS_cell S.tcell_tree_node (hc1.fst rfl) E]
      have p1 : Sl w (slV (sv s) 1 0 (ks.length - 1) (capV (sv s))) 1 encK ((ks.take (ks.length - 1)).map (·.1)) := by
        simpa using kids_part hsl (lo := 0) (hi := ks.length - 1) (mx := capV (sv s)) (by omega) (by omega) (by omega) (by omega)
      have htk : ks = ks.take (ks.length - 1) ++ [t] := by
        rw [← take_succ_of ht, Nat.sub_add_cancel (by omega), List.take_length]
      have hfl : (ks.take (ks.length - 1)).flatMap (·.2.2) ++ t.2.2 = ks.flatMap (·.2.2) := by
        conv => rhs; rw [htk]
        rw [List.flatMap_append, List.flatMap_singleton]
      refine (ih (w := w.drew) (by omega) (hkt.ext E) (hB.ext E) (hg.sub (fun x hx => ?_) ?_)).mono ?_
      · rw [← hfl, List.append_assoc]; exact List.mem_append_right _ hx
      · rw [← hfl]; simp
      rintro u w1 ⟨e1, m, h2, hm, _⟩
      have F1 := E.trans e1
      refine ⟨F1, ?_⟩
      rw [show max h hb = h from by omega] at h2
      obtain ⟨ks2, s1, s2, s3, s4, s5⟩ := h2.all4 (by have := hm (by omega); omega)
      have hl1 : (ks.take (ks.length - 1)).length = ks.length - 1 := by rw [List.length_take]; omega
      refine (put_spec (p1.ext F1) s1 (by rw [List.length_map, List.length_map]; omega)).mono ?_
      rintro u w2 ⟨e2, h3⟩
      have F2 := F1.trans e2
      refine ⟨F2, ?_⟩
      rw [← List.map_append] at h3
      have hfl2 : (ks.take (ks.length - 1) ++ ks2).flatMap (·.2.2) = ks.flatMap (·.2.2) ++ xb := by
        rw [List.flatMap_append, s2, ← hfl, List.append_assoc]
      refine (raise_spec (h := h) h3 (fun q hq => ?_) (by rw [hfl2]; exact hg) (by rw [List.length_append]; omega) (by rw [List.length_append]; omega)).mono ?_
      · rcases List.mem_append.1 hq with hq | hq
        · exact ⟨(hk q (List.mem_of_mem_take hq)).1, (hk q (List.mem_of_mem_take hq)).2.ext F2⟩
        · exact ⟨(s3 q hq).1, (s3 q hq).2.ext e2⟩
      rintro u w3 ⟨e3, h4⟩
      have F3 := F2.trans e3
      refine ⟨F3, F3, (ks.take (ks.length - 1) ++ ks2).length, ?_, fun _ => ?_, fun h' => by omega⟩
      · rw [show max (h + 1) hb = h + 1 from by omega, ← hfl2]; exact h4
      · rw [List.length_append]; omega
    rw [sBin_lss, sIf_dec]
    refine ⟨fun hgt => ?_, fun hle2 => ?_⟩
    · obtain ⟨h, rfl⟩ : ∃ h, hb = h + 1 := ⟨hb - 1, by omega⟩
      obtain ⟨b, s, ks, rfl, k2, k8, rfl, hc, hsl, rfl, hk⟩ := nd_inner hB
      have hcap := sl_cap hsl
      rw [List.length_map] at hcap
      rw [ndv_f, sAssert_is S.tcq_P_tree_inner]
      obtain ⟨t, ht⟩ : ∃ t, ks[0]? = some t := ⟨_, List.getElem?_eq_getElem (by omega)⟩
      obtain ⟨q4, hkt⟩ := hk t (List.mem_of_getElem? ht)
      obtain ⟨b1, o1, hel1, hc1⟩ := hsl.el (kids_at ht)
      refine DrawS.ext ?_
      have E : Ext w w.drew := (Ext.refl w).drew
      rw [sNil_ptr, stillS_eq (fun w1 h1 K => sFldA_ptr S.tfl_tree_inner_kids) E, stillS_cell S.tcell_L_tree_node (hc.fst rfl) E,
        stillS_eq (fun w1 h1 K => sIdxA_sl (i := 0) (z := 0) S.tel_L_tree_node S.tsz_tree_node (by omega) (hsl.ext h1) (kids_at ht) rfl) E, hel1, stillS_cell S.tcell_tree_node (hc1.fst rfl) E,
        sNil_ptr, stillS_eq (fun w1 h1 K => sFldA_ptr S.tfl_tree_inner_kids) E, stillS_cell S.tcell_L_tree_node (hc.fst rfl) E,
        stillS_eq (fun w1 h1 K => sSlice_l (lo := 1) (zl := 1) S.tel_L_tree_node S.tsz_tree_node (by omega) (hsl.ext h1) rfl (by rw [List.length_map]; omega)) E, List.length_map]
      have p1 : Sl w (slV (sv s) 1 1 ks.length (capV (sv s))) 1 encK ((ks.drop 1).map (·.1)) := by
        have := kids_part hsl (lo := 1) (hi := ks.length) (mx := capV (sv s)) (by omega) (by omega) (by omega) (by omega)
        rwa [List.take_length] at this
      have htk : ks = t :: ks.drop 1 := by
        have := drop_cons_of ht
        simpa using this
      have hfl : t.2.2 ++ (ks.drop 1).flatMap (·.2.2) = ks.flatMap (·.2.2) := by
        conv => rhs; rw [htk]
        rw [List.flatMap_cons]
      refine (ih (w := w.drew) (by omega) (hA.ext E) (hkt.ext E) (hg.sub (fun x hx => ?_) ?_)).mono ?_
      · rw [← hfl, ← List.append_assoc]; exact List.mem_append_left _ hx
      · rw [← hfl]; simp
      rintro u w1 ⟨e1, m, h2, _, hm⟩
      have F1 := E.trans e1
      refine ⟨F1, ?_⟩
      rw [show max ha h = h from by omega] at h2
      obtain ⟨ks2, s1, s2, s3, s4, s5⟩ := h2.all4 (by have := hm (by omega); omega)
      have hl1 : (ks.drop 1).length = ks.length - 1 := by rw [List.length_drop]
      refine (put_spec s1 (p1.ext F1) (by rw [List.length_map, List.length_map]; omega)).mono ?_
      rintro u w2 ⟨e2, h3⟩
      have F2 := F1.trans e2
      refine ⟨F2, ?_⟩
      rw [← List.map_append] at h3
      have hfl2 : (ks2 ++ ks.drop 1).flatMap (·.2.2) = xa ++ ks.flatMap (·.2.2) := by
        rw [List.flatMap_append, s2, ← hfl, List.append_assoc]
      refine (raise_spec (h := h) h3 (fun q hq => ?_) (by rw [hfl2]; exact hg) (by rw [List.length_append]; omega) (by rw [List.length_append]; omega)).mono ?_
      · rcases List.mem_append.1 hq with hq | hq
        · exact ⟨(s3 q hq).1, (s3 q hq).2.ext e2⟩
        · exact ⟨(hk q (List.mem_of_mem_drop hq)).1, (hk q (List.mem_of_mem_drop hq)).2.ext F2⟩
      rintro u w3 ⟨e3, h4⟩
      have F3 := F2.trans e3
      refine ⟨F3, F3, (ks2 ++ ks.drop 1).length, ?_, fun h' => by omega, fun _ => ?_⟩
      · rw [show max ha (h + 1) = h + 1 from by omega, ← hfl2]; exact h4
      · rw [List.length_append]; omega
    obtain rfl : ha = hb := by omega
    rw [Nat.max_self]
    cases ha with
    | zero =>
      obtain ⟨b, s, rfl, k1, k8, rfl, hc, hsl⟩ := nd_leaf hA
      obtain ⟨b', s', rfl, k1', k8', rfl, hc', hsl'⟩ := nd_leaf hB
      have hmx : maxLen = 9223372036854775807 := rfl
      rw [ndv_t, ndv_t, sAssert_yes S.tcq_P_tree_leaf, sExtract_0, sExtract_1, sIf_true, sAssert_is S.tcq_P_tree_leaf]
      refine DrawS.ext ?_
      have E : Ext w w.drew := (Ext.refl w).drew
      rw [sNil_ptr, stillS_eq (fun w1 h1 K => sFldA_ptr S.tfl_tree_leaf_items) E, stillS_cell S.tcell_L_item_Item (hc.fst rfl) E, stillS_eq (fun w1 h1 K => sLen_sl S.tel_L_item_Item (hsl.ext h1)) E,
        sNil_ptr, stillS_eq (fun w1 h1 K => sFldA_ptr S.tfl_tree_leaf_items) E, stillS_cell S.tcell_L_item_Item (hc'.fst rfl) E, stillS_eq (fun w1 h1 K => sLen_sl S.tel_L_item_Item (hsl'.ext h1)) E,
        stillS_eq (fun w1 h1 K => sBin_add _ _ ⟨by omega, by omega⟩) E]
      refine sMake_own (enc := encT) (c := xa.length + xb.length) S.tel_L_item_Item S.tsz_item_Item S.tze_item_Item (by omega) (by rw [S.tby_item_Item]; omega) (by omega) fun v w1 hv e1 => ?_
      have F1 := E.trans e1
      refine ⟨F1, ?_⟩
      rw [sNil_ptr, sFldA_ptr S.tfl_tree_leaf_items, sLoad_cell S.tcell_L_item_Item ((hc.ext F1).fst rfl)]
      refine sAppend_own S.tel_L_item_Item S.tsz_item_Item (by decide) S.tze_item_Item rfl encT_ok hv e1.size (hsl.ext F1) (by simp; omega) (by rw [S.tby_item_Item]; simp; omega) fun v2 w2 hv2 hg2 => ?_
      have F2 : Ext w w2 := F1.wr hg2 fun g hg => (hv.lt g hg).1
      rw [sNil_ptr, sFldA_ptr S.tfl_tree_leaf_items, sLoad_cell S.tcell_L_item_Item ((hc'.ext F2).fst rfl)]
      refine sAppend_own S.tel_L_item_Item S.tsz_item_Item (by decide) S.tze_item_Item rfl encT_ok hv2 F2.size (hsl'.ext F2) (by simp; omega) (by rw [S.tby_item_Item]; simp; omega) fun v3 w3 hv3 hg3 => ?_
      have F3 : Ext w w3 := F2.wr hg3 fun g hg => (hv2.lt g hg).1
      have hs3 : Sl w3 v3 7 encT (xa ++ xb) := by simpa using hv3.sl encT_ok
      refine (spread_spec hs3 hg (by rw [List.length_append]; omega) (by rw [List.length_append]; omega)).mono ?_
      rintro u w4 ⟨e4, h4⟩
      exact ⟨F3.trans e4, _, h4, fun _ => by rw [List.length_append]; omega, fun _ => by rw [List.length_append]; omega⟩
    | succ h =>
      obtain ⟨b, s, ks, rfl, k2, k8, rfl, hc, hsl, rfl, hk⟩ := nd_inner hA
      obtain ⟨b', s', ks', rfl, k2', k8', rfl, hc', hsl', rfl, hk'⟩ := nd_inner hB
      obtain ⟨z, hz⟩ := sAssert_no (P := Try.prog) (T := S.T.tree_node) (v := .pointer (some ⟨b, 0, none⟩)) (B := S.T.P_tree_inner) S.tcq_P_tree_leaf (by decide)
      rw [ndv_f, ndv_f, hz, sExtract_0, sExtract_1, sIf_false]
      refine DrawS.ext ?_
      have E : Ext w w.drew := (Ext.refl w).drew
      rw [stillS_eq (fun w1 h1 K => sAssert_is S.tcq_P_tree_inner) E, sNil_ptr, stillS_eq (fun w1 h1 K => sFldA_ptr S.tfl_tree_inner_kids) E, stillS_cell S.tcell_L_tree_node (hc.fst rfl) E,
        stillS_eq (fun w1 h1 K => sAssert_is S.tcq_P_tree_inner) E, sNil_ptr, stillS_eq (fun w1 h1 K => sFldA_ptr S.tfl_tree_inner_kids) E, stillS_cell S.tcell_L_tree_node (hc'.fst rfl) E]
      refine (put_spec (hsl.ext E) (hsl'.ext E) (by rw [List.length_map, List.length_map]; omega)).mono ?_
      rintro u w2 ⟨e2, h3⟩
      have F2 := E.trans e2
      refine ⟨F2, ?_⟩
      rw [← List.map_append] at h3
      refine (raise_spec (h := h) h3 (fun q hq => ?_) (by rw [List.flatMap_append]; exact hg) (by rw [List.length_append]; omega) (by rw [List.length_append]; omega)).mono ?_
      · rcases List.mem_append.1 hq with hq | hq
        · exact ⟨(hk q hq).1, (hk q hq).2.ext F2⟩
        · exact ⟨(hk' q hq).1, (hk' q hq).2.ext F2⟩
      rintro u w3 ⟨e3, h4⟩
      have F3 := F2.trans e3
      rw [List.flatMap_append, List.length_append] at h4
      exact ⟨F3, F3, _, h4, fun _ => by omega, fun _ => by omega⟩
end Go.Proofs.Ytmlbaimdphillaa
