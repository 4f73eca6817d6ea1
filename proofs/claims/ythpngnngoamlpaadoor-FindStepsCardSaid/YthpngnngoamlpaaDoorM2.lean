/- All that is found: of the program and of the document; spans compared; next, last, replaced. Conditions: texts not too long. -/
import Derived.Test.YthpngnngoamlpaaDoorM1
namespace Go.Proofs.YthpngnngoamlpaaDoor
open Go Go.Lift Go.RowKit Go.Txt

abbrev Sp := Int × Int
abbrev encV (x : Sp) : List Value := encP2 x.1 x.2
theorem encV_one (x : Sp) : ∀ u ∈ encV x, u.oneCell' = true := fun u hu => by simp at hu; rcases hu with rfl | rfl <;> rfl
theorem encV_ok : Enc encV 2 := ⟨fun _ => rfl, fun x u hu => encV_one x u hu⟩
theorem encV_inj {x y : Sp} : encV x = encV y ↔ x = y := by
  obtain ⟨a, b⟩ := x
  obtain ⟨c, d⟩ := y
  constructor
  · intro h
    simp only [List.cons.injEq, Value.int.injEq, true_and, and_true] at h
    rw [h.1, h.2]
  · rintro h; rw [h]
theorem sBin_sEq {w : World} {K : K1} {cx cy : Bool} (x y : Sp) : sBin Tryd.prog .eql S.T.api_Span cx cy (.agg (encV x).toArray) (.agg (encV y).toArray) w K = K (.bool (decide (x = y))) w := by
  obtain ⟨r, hr, he, _⟩ := sBin_deep (P := Tryd.prog) (cx := cx) (cy := cy) (cs := encV x) (ds := encV y) S.tdq_api_Span S.taq_api_Span S.tgq_api_Span (by kernel_rfl) (by kernel_rfl)
  rw [he, bool_dec' (hr.trans encV_inj)]
theorem sBin_sNe {w : World} {K : K1} {cx cy : Bool} (x y : Sp) : sBin Tryd.prog .neq S.T.api_Span cx cy (.agg (encV x).toArray) (.agg (encV y).toArray) w K = K (.bool (!decide (x = y))) w := by
  obtain ⟨r, hr, _, he⟩ := sBin_deep (P := Tryd.prog) (cx := cx) (cy := cy) (cs := encV x) (ds := encV y) S.tdq_api_Span S.taq_api_Span S.tgq_api_Span (by kernel_rfl) (by kernel_rfl)
  rw [he, bool_dec' (hr.trans encV_inj)]
theorem sMax_two {P : Program} {w : World} {K : K1} {k : IntKind} {ts : List TypeId} {ty : TypeId} (a b : Int) : sBuiltin P .max ts ty [.int k a, .int k b] w K = K (.int k (if a < b then b else a)) w := by
  simp [sBuiltin, after, Builtin.max_, Builtin.max2]
theorem spansEq_spec {w : World} {a b : Value} {xs ys : List Sp} (ha : Sl w a 2 encV xs) (hb : Sl w b 2 encV ys) : sCall Tryd.prog S.bodkinplain_Spans.n [a, b] w fun u w' => Ext w w' ∧ u = .bool (decide (xs = ys)) := by
  suffices h : sCall Tryd.prog S.bodkinplain_Spans.n [a, b] w fun u w' => Ext w w' ∧ ∃ r, u = .bool r ∧ (r = true ↔ xs = ys) by
    refine h.mono ?_
    rintro u w' ⟨e, r, rfl, hr⟩
    exact ⟨e, by rw [bool_dec' hr]⟩
  refine S.bodkinplain_Spans.call ?_
  unfold S.bodkinplain_Spans
  rw [sLen_sl S.tel_L_api_Span ha]
  have hla := ha.len_le
  refine LoopS.intro (fun us w1 => Ext w w1 ∧ ∃ i : Nat, us = [.int .i64 i] ∧ i ≤ xs.length ∧ i ≤ ys.length ∧ xs.take i = ys.take i)
    (fun us _ => match us with | [.int _ a] => (xs.length - a).toNat | _ => 0) ⟨Ext.refl w, 0, rfl, Nat.zero_le _, Nat.zero_le _, rfl⟩ ?_
  rintro us vs w1 ⟨he, i, rfl, hi, hj, hp⟩
  unfold S.bodkinplain_Spans_L1
  rw [Go.Lift.hd, sBin_lss, sIf_dec]
  refine ⟨fun hlt => ?_, fun hge => ?_⟩
  · refine DrawS.ext ?_
    have E : Ext w1 w1.drew := (Ext.refl w1).drew
    have ha1 := ha.ext he
    have hb1 := hb.ext he
    rw [stillS_eq (fun w1 h1 K => sLen_sl S.tel_L_api_Span (hb1.ext h1)) E, stillS_eq (fun w1 h1 K => sBin_geq _ _) E, sIf_dec]
    refine ⟨fun hge => ⟨he.trans E, false, rfl, ?_⟩, fun hlt2 => ?_⟩
    · simp only [Bool.false_eq_true, false_iff]
      rintro rfl
      omega
    obtain ⟨x, hx⟩ : ∃ x, xs[i]? = some x := ⟨_, List.getElem?_eq_getElem (by omega)⟩
    obtain ⟨y, hy⟩ : ∃ y, ys[i]? = some y := ⟨_, List.getElem?_eq_getElem (by omega)⟩
    obtain ⟨b1, o1, hel1, hc1⟩ := ha1.el hx
    obtain ⟨b2, o2, hel2, hc2⟩ := hb1.el hy
    rw [stillS_eq (fun w1 h1 K => sIdxA_sl S.tel_L_api_Span S.tsz_api_Span (by omega) (ha1.ext h1) hx rfl) E, hel1, stillS_agg S.tagg_api_Span hc1 rfl E,
      stillS_eq (fun w1 h1 K => sIdxA_sl S.tel_L_api_Span S.tsz_api_Span (by omega) (hb1.ext h1) hy rfl) E, hel2, stillS_agg S.tagg_api_Span hc2 rfl E, stillS_eq (fun w1 h1 K => sBin_sNe x y) E, sIf_not]
    refine ⟨fun h => ⟨he.trans E, false, rfl, ?_⟩, fun h => ?_⟩
    · simp only [Bool.false_eq_true, false_iff]
      rintro rfl
      rw [hx] at hy; cases hy
      exact h rfl
    · subst h
      rw [sBin_add _ _ ⟨by omega, by omega⟩]
      refine ⟨⟨he.trans E, i + 1, by simp, by omega, by omega, ?_⟩, by simp only []; omega⟩
      rw [List.take_add_one, List.take_add_one, hp, hx, hy]
  · rw [sLen_sl S.tel_L_api_Span (ha.ext he), sLen_sl S.tel_L_api_Span (hb.ext he), sBin_eql]
    refine ⟨he, _, rfl, ?_⟩
    rw [decide_eq_true_eq]
    have hix : i = xs.length := by omega
    subst hix
    rw [List.take_length] at hp
    constructor
    · intro h; rw [hp, List.take_of_length_le (by omega)]
    · rintro rfl; rfl
/-! ## All that is found -/
open Classical in
noncomputable def refA (p : Nat → Prop) (n : Nat) : Nat → Nat × List Sp
  | 0 => (0, [])
  | k + 1 => if (refA p n k).1 ≤ k ∧ (refA p n k).2.length < 500 ∧ p k then (k + n, (refA p n k).2 ++ [((k : Int), (k : Int) + n)]) else refA p n k
section
variable {p : Nat → Prop} {n k e : Nat} {o : List Sp}
theorem refA_yes (h : refA p n k = (e, o)) (h1 : e ≤ k) (h2 : o.length < 500) (h3 : p k) : refA p n (k + 1) = (k + n, o ++ [((k : Int), (k : Int) + n)]) := by
  rw [refA, h, if_pos ⟨h1, h2, h3⟩]
theorem refA_no (h : refA p n k = (e, o)) (hn : ¬ (e ≤ k ∧ o.length < 500 ∧ p k)) : refA p n (k + 1) = (e, o) := by
  rw [refA, h, if_neg hn]
theorem refA_skip (h : refA p n k = (e, o)) : ∀ d, k + d ≤ e → refA p n (k + d) = (e, o)
  | 0, _ => h
  | d + 1, hd => refA_no (k := k + d) (refA_skip h d (by omega)) fun q => by have := q.1; omega
theorem refA_full (h : refA p n k = (e, o)) (h5 : ¬ o.length < 500) : ∀ d, refA p n (k + d) = (e, o)
  | 0 => h
  | d + 1 => refA_no (refA_full h h5 d) fun k => h5 k.2.1
theorem refA_len (p : Nat → Prop) (n : Nat) : ∀ k, (refA p n k).2.length ≤ 500
  | 0 => Nat.zero_le _
  | k + 1 => by
    have ih := refA_len p n k
    rw [refA]
    split
    · rename_i h; rw [List.length_append, List.length_singleton]; omega
    · exact ih
end
abbrev encY (t : List UInt8) (fold word : Bool) : List Value := [tv t, .bool fold, .bool word]
theorem encY_one (t : List UInt8) (fold word : Bool) : ∀ u ∈ encY t fold word, u.oneCell' = true := fun u hu => by simp [encY] at hu; rcases hu with rfl | rfl | rfl <;> rfl
theorem fnS_shape (fold : Bool) : (fnS fold).cells = [fnS fold].toArray ∧ (fnS fold).oneCell' = true := by cases fold <;> exact ⟨rfl, rfl⟩
/-- What is found in a text. -/
noncomputable abbrev hits (l : List Int) (t : List UInt8) (fold word : Bool) : List Sp := (refA (fnd l (runes t) fold word) (runes t).length l.length).2
theorem fall_spec {w : World} {v : Value} {ps : List (List Int)} {t : List UInt8} {fold word : Bool} (h : Rp w v ps) (hp : RpOk ps) (ht : t.length ≤ 1000000) : sCall Tryd.prog S.find_All.n [v, .agg (encY t fold word).toArray] w fun u w' => Ext w w' ∧
    ((runes t = [] ∧ u = .tuple #[.slice none 0 0, .int .i64 4]) ∨ (200 < (runes t).length ∧ u = .tuple #[.slice none 0 0, .int .i64 2]) ∨
      (0 < (runes t).length ∧ (runes t).length ≤ 200 ∧ ∃ x : Value, u = .tuple #[x, .int .i64 0] ∧ Row w' w.heap.size S.T.api_Span 2 x encV (hits ps.flatten t fold word))) := by
  refine S.find_All.call ?_
  unfold S.find_All
  have hle := hp.le
  have hmx : maxLen = 9223372036854775807 := rfl
  have hrt := runes_len t
  refine sBox_new (cs := encY t fold word) rfl fun b3 w1 hb3 hs1 e1 hk3 => ?_
  refine DrawS.ext ?_
  have E0 : Ext w1 w1.drew := (Ext.refl w1).drew
  have c3 := hk3.cells
  rw [stillS_eq (fun w' h1 K => sFldA_ptr S.tfl_find_Query_Text) E0, stillS_cell (v := tv t) S.tcell_string (c3.at 0 rfl) E0, stillS_eq (fun w' h1 K => sFldA_ptr S.tfl_find_Query_Word) E0, stillS_cell (v := .bool word) S.tcell_bool (c3.at 2 rfl) E0]
  refine (rtext_spec (h.ext (e1.trans E0)) hp).mono ?_
  rintro u w2 ⟨e2, rfl⟩
  have C2 := E0.trans e2
  refine ⟨C2, ?_⟩
  have htl := txt_len ps.flatten
  refine (udecode_spec (txt ps.flatten) (by omega)).mono ?_
  rintro xv w3 ⟨e3, hx⟩
  have C3 := C2.trans e3
  refine ⟨C3, ?_⟩
  rw [runes_of hp.runes] at hx
  refine (udecode_spec t (by omega)).mono ?_
  rintro wv w4 ⟨e4, hw⟩
  have C4 := C3.trans e4
  refine ⟨C4, ?_⟩
  have hx4 := hx.ext e4
  rw [stillS_eq (fun w' h1 K => sBuild_of (cs := [xv, wv, .bool word, .nilFunc]) (lp := [(0, [xv]), (1, [wv]), (2, [.bool word])]) S.tze_find_search S.tpl_find_search (by simp only [List.map_cons, List.map_nil, hx.shape.1, hw.shape.1]; rfl) rfl) C4]
  refine sBox_new (cs := [xv, wv, .bool word, .nilFunc]) rfl fun b5 w5 hb5 hs5 e5 hk5 => ?_
  have C5 := C4.trans e5
  refine ⟨C5, ?_⟩
  have E5 := e1.trans C5
  have hx5 := (hx4.sl encRn_ok).ext e5
  have hw5 := (hw.sl encRn_ok).ext e5
  have c5 := hk5.cells
  rw [sNil_ptr, sFldA_ptr S.tfl_find_search_want, sLoad_cell S.tcell_L_int32 (c5.at 1 rfl), sLen_sl S.tel_L_int32 hw5, sBin_eql, sIf_dec]
  refine ⟨fun h0 => ⟨E5, .inl ⟨List.eq_nil_of_length_eq_zero (by omega), rfl⟩⟩, fun h0 => ?_⟩
  rw [sNil_ptr, sFldA_ptr S.tfl_find_search_want, sLoad_cell S.tcell_L_int32 (c5.at 1 rfl), sLen_sl S.tel_L_int32 hw5, sBin_gtr, sIf_dec]
  refine ⟨fun h2 => ⟨E5, .inr (.inl ⟨by omega, rfl⟩)⟩, fun h2 => ?_⟩
  have s1 := e1.size
  have s4 := C4.size
  rw [sNil_ptr, sFldA_ptr S.tfl_find_search_same]
  refine sStore_blk (n := 1) (vs := [fnS false]) (by kernel_rfl) (by decide) hk5 rfl rfl (by simp) (by intro u hu; simp at hu; subst hu; rfl) fun w6 hs6 hg6 hk6 => ?_
  have e06 : Ext w w6 := E5.wr hg6 (by rintro _ ⟨⟩; omega)
  have e46 : Ext w4 w6 := e5.wr hg6 (by rintro _ ⟨⟩; omega)
  have c36 : Ext w1 w6 := C5.wr hg6 (by rintro _ ⟨⟩; omega)
  refine JoinS.intro (fun us w' => Ext w w' ∧ Ext w4 w' ∧ Srch w' b5 ps.flatten (runes t) fold word) ?_ ?_
  · rw [sFldA_ptr S.tfl_find_Query_Fold, sLoad_cell (v := .bool fold) S.tcell_bool ((c3.ext c36).at 1 rfl), sIf_bool]
    refine ⟨fun hf => ?_, fun hf => ⟨e06, e46, xv, wv, by subst hf; exact hk6.cells, (hx4.sl encRn_ok).ext e46, (hw.sl encRn_ok).ext e46⟩⟩
    rw [sNil_ptr, sFldA_ptr S.tfl_find_search_same]
    refine sStore_blk (n := 1) (vs := [fnS true]) (by kernel_rfl) (by decide) hk6 rfl rfl (by simp [splice]) (by intro u hu; simp at hu; subst hu; rfl) fun w7 hs7 hg7 hk7 => ?_
    have e47 : Ext w4 w7 := e46.wr hg7 (by rintro _ ⟨⟩; omega)
    exact ⟨e06.wr hg7 (by rintro _ ⟨⟩; omega), e47, xv, wv, by subst hf; exact hk7.cells, (hx4.sl encRn_ok).ext e47, (hw.sl encRn_ok).ext e47⟩
  rintro us vs w8 ⟨e08, e48, hS⟩
  unfold S.find_All_J1
  refine JoinS.intro (fun us w' => Ext w w' ∧ ∃ o : Value, us = [o] ∧ Row w' w.heap.size S.T.api_Span 2 o encV (hits ps.flatten t fold word)) ?_ ?_
  case refine_2 =>
    rintro us vs w9 ⟨e9, o, rfl, ho⟩
    unfold S.find_All_J2
    exact ⟨e9, .inr (.inr ⟨by omega, by omega, o, rfl, ho⟩)⟩
  have e0s := e08.size
  refine LoopS.intro (fun us w' => Ext w8 w' ∧ ∃ (at_ e : Nat) (o : Value) (xs : List Sp), us = [.int .i64 at_, o] ∧ at_ ≤ ps.flatten.length ∧ refA (fnd ps.flatten (runes t) fold word) (runes t).length at_ = (e, xs) ∧ e ≤ at_ ∧ Row w' w8.heap.size S.T.api_Span 2 o encV xs)
    (fun us _ => match us with | [.int _ a, _] => (ps.flatten.length - a).toNat | _ => 0) ⟨Ext.refl _, 0, 0, _, [], rfl, Nat.zero_le _, rfl, Nat.le_refl _, Row.nil _ _ _ _ _⟩ ?_
  rintro us vs w9 ⟨e9, at_, e, o, xs, rfl, ha, hR, hea, ho⟩
  unfold S.find_All_L3
  have hS9 := hS.ext e9
  have hS9' := hS9
  obtain ⟨xv', wv', hc, hx', hw'⟩ := hS9'
  have hxl : xs.length ≤ 500 := by have := refA_len (fnd ps.flatten (runes t) fold word) (runes t).length at_; rw [hR] at this; exact this
  rw [Go.Lift.hd, Go.Lift.tl, Go.Lift.hd, sNil_ptr, sFldA_ptr S.tfl_find_search_runes, sLoad_cell S.tcell_L_int32 (hc.at 0 rfl), sLen_sl S.tel_L_int32 hx', sBin_lss, sIf_dec]
  have fin : ∀ x, refA (fnd ps.flatten (runes t) fold word) (runes t).length ps.flatten.length = x → x.2 = hits ps.flatten t fold word := fun x hx => by rw [← hx]
  refine ⟨fun hlt => ?_, fun hge => ⟨e08.trans e9, o, rfl, ?_⟩⟩
  case refine_2 =>
    obtain rfl : at_ = ps.flatten.length := by omega
    rw [← fin _ hR]
    exact ho.mono e0s
  rw [sLen_sl S.tel_L_api_Span (ho.sl encV_ok), sBin_lss, sIf_dec]
  refine ⟨fun hlt5 => ?_, fun hge5 => ⟨e08.trans e9, o, rfl, ?_⟩⟩
  case refine_2 =>
    have := refA_full hR (by omega) (ps.flatten.length - at_)
    rw [show at_ + (ps.flatten.length - at_) = ps.flatten.length by omega] at this
    rw [← fin _ this]
    exact ho.mono e0s
  refine (found_spec (a := at_) hS9 (by omega) ha (by omega) (by omega)).mono ?_
  rintro u w10 ⟨e10, q, rfl, hq⟩
  have e810 := e9.trans e10
  rw [sUn_not, sIf_bool]
  refine ⟨fun hn => ?_, fun hy => ?_⟩
  · rw [sBin_add _ _ ⟨by omega, by omega⟩]
    refine ⟨⟨e810, at_ + 1, e, o, xs, by simp, by omega, refA_no hR fun k => ?_, by omega, ho.ext e10⟩, by simp only []; omega⟩
    rw [hq.2 k.2.2] at hn
    cases hn
  · have hqt : q = true := by cases q <;> simp_all
    have hf := hq.1 hqt
    have hfl := hf.1
    have c10 := hc.ext e10
    have w10' := hw'.ext e10
    rw [sNil_ptr, sFldA_ptr S.tfl_find_search_want, sLoad_cell S.tcell_L_int32 (c10.at 1 rfl), sLen_sl S.tel_L_int32 w10', sBin_add _ _ ⟨by omega, by omega⟩, sBuild_of (cs := encV ((at_ : Int), (at_ : Int) + (runes t).length)) (lp := [(0, [.int .i64 at_]), (1, [.int .i64 ((at_ : Int) + (runes t).length)])]) S.tze_api_Span S.tpl_api_Span rfl rfl]
    refine sBuildSlice_own (n := 1) (enc := encV) (xs := [((at_ : Int), (at_ : Int) + (runes t).length)]) (lp := [(0, encV ((at_ : Int), (at_ : Int) + (runes t).length))]) S.tel_L_api_Span S.tsz_api_Span rfl S.tze_api_Span (by decide) (by decide) encV_ok rfl rfl fun tt w11 ht' ho11 e11 hs11 => ?_
    have e911 := e10.trans e11
    have e811 := e9.trans e911
    refine sAppend_row S.tel_L_api_Span S.tsz_api_Span (by decide) S.tze_api_Span rfl encV_ok (ho.ext e911) e811.size (ho11.sl encV_ok) (by simp; omega) (by rw [S.tby_api_Span]; simp; omega) fun o' w12 ho12 hg12 _ => ?_
    have hog : ∀ g, o.ownBlock = some g → w8.heap.size ≤ g := fun g hg => (ho.lt g hg).1
    have e12 := e811.wr hg12 hog
    have hb5 : b5 < w8.heap.size := by
      obtain ⟨_, _, hc8, _⟩ := hS
      exact cell_lt (hc8.at 0 rfl)
    have c12 : Srch w12 b5 ps.flatten (runes t) fold word := hS.ext e12
    obtain ⟨xv2, wv2, hc2, hx2, hw2⟩ := c12
    rw [sNil_ptr, sFldA_ptr S.tfl_find_search_want, sLoad_cell S.tcell_L_int32 (hc2.at 1 rfl), sLen_sl S.tel_L_int32 hw2, sBin_add _ _ ⟨by omega, by omega⟩]
    have h1 := refA_yes hR hea (by omega) hf
    have h2 := refA_skip h1 ((runes t).length - 1) (by omega)
    rw [show at_ + 1 + ((runes t).length - 1) = at_ + (runes t).length by omega] at h2
    exact ⟨⟨e12, at_ + (runes t).length, at_ + (runes t).length, o', _, by simp, hfl, h2, Nat.le_refl _, ho12⟩, by simp only []; omega⟩
end Go.Proofs.YthpngnngoamlpaaDoor
