/- The document's search; the next and the last span, and edits for spans. Conditions: texts and lists not too long. -/
import Derived.Test.YthpngnngoamlpaaDoorM2
namespace Go.Proofs.YthpngnngoamlpaaDoor
open Go Go.Lift Go.RowKit Go.Txt

section
variable {w : World} {lv wv : Value} {l pat : List Int} {fold word : Bool}
theorem dletter_spec (hl : Sl w lv 1 encRn l) (a : Int) : sCall Tryd.prog S.bodkinref39_letter.n [lv, .int .i64 a] w fun u w' => w' = w ∧ u = .bool (ltr l a) := by
  refine S.bodkinref39_letter.call ?_
  unfold S.bodkinref39_letter
  rw [sBin_geq, sIf_dec]
  refine ⟨fun h0 => ?_, fun h0 => ⟨rfl, by rw [ltr_none fun k => h0 k.1]⟩⟩
  rw [sLen_sl S.tel_L_int32 hl, sBin_lss, sIf_dec]
  refine ⟨fun h1 => ?_, fun h1 => ⟨rfl, by rw [ltr_none fun k => h1 k.2]⟩⟩
  obtain ⟨r, hr⟩ : ∃ r, l[a.toNat]? = some r := ⟨_, List.getElem?_eq_getElem (by omega)⟩
  obtain ⟨b1, o1, hel1, hc1⟩ := hl.el hr
  rw [sIdxA_sl S.tel_L_int32 S.tsz_int32 (by omega) hl hr (by omega), hel1, sLoad_cell (v := .int .i32 r) S.tcell_int32 (hc1.fst rfl)]
  refine (dclass_spec r).mono ?_
  rintro u w1 ⟨rfl, rfl⟩
  rw [sBin_eql]
  exact ⟨rfl, by rw [ltr_some h0 hr]⟩
theorem eqAll_iff {a : Nat} (h : a + pat.length ≤ l.length) : eqAll fold ((l.take (a + pat.length)).drop a) pat ↔ ∀ (i : Nat) (r s : Int), l[a + i]? = some r → pat[i]? = some s → sameR fold r s = true := by
  have hlen : ((l.take (a + pat.length)).drop a).length = pat.length := by rw [List.length_drop, List.length_take]; omega
  have hat : ∀ i, i < pat.length → ((l.take (a + pat.length)).drop a)[i]? = l[a + i]? := fun i hi => by
    rw [List.getElem?_drop, List.getElem?_take, if_pos (by omega)]
  constructor
  · rintro ⟨_, h2⟩ i r s hr hs
    have := (List.getElem?_eq_some_iff.1 hs).1
    exact h2 i r s (by rw [hat i this]; exact hr) hs
  · intro h2
    refine ⟨hlen, fun i r s hr hs => ?_⟩
    have := (List.getElem?_eq_some_iff.1 hs).1
    exact h2 i r s (by rw [hat i this] at hr; exact hr) hs
theorem sameR_refl (fold : Bool) (a : Int) : sameR fold a a = true := by cases fold <;> simp [sameR]
theorem dfound_spec (hw : Sl w wv 1 encRn pat) (hl : Sl w lv 1 encRn l) (hn : pat.length ≤ 1000000) (hm : l.length ≤ 1000000) (a : Nat) (ha : a ≤ l.length) : sCall Tryd.prog S.bodkinref39_Query_Found.n [.agg [wv, .bool fold, .bool word].toArray, lv, .int .i64 a] w fun u w' => Ext w w' ∧ ∃ q : Bool, u = .bool q ∧ (q = true ↔ fnd l pat fold word a) := by
  refine S.bodkinref39_Query_Found.call ?_
  unfold S.bodkinref39_Query_Found
  refine sBox_new (cs := [wv, .bool fold, .bool word]) rfl fun b3 w1 hb3 hs1 e1 hk3 => ?_
  have c3 := hk3.cells
  have hw1 := hw.ext e1
  have hl1 := hl.ext e1
  rw [sFldA_ptr S.tfl_bodkinref39_Query_Want, sLoad_cell S.tcell_L_int32 (c3.at 0 rfl), sLen_sl S.tel_L_int32 hw1, sBin_lss, sIf_dec]
  refine ⟨fun h => by omega, fun _ => ?_⟩
  rw [sLen_sl S.tel_L_int32 hl1, sBin_sub _ _ ⟨by omega, by omega⟩, sBin_gtr, sIf_dec]
  refine ⟨fun h => ⟨e1, false, rfl, ?_⟩, fun hle => ?_⟩
  · simp only [Bool.false_eq_true, false_iff]
    exact fun k => by have := k.1; omega
  have hle' : a + pat.length ≤ l.length := by omega
  rw [sFldA_ptr S.tfl_bodkinref39_Query_Want, sLoad_cell S.tcell_L_int32 (c3.at 0 rfl), sLen_sl S.tel_L_int32 hw1]
  refine LoopS.intro (fun us w2 => w2 = w1 ∧ ∃ i : Nat, us = [.int .i64 i] ∧ i ≤ pat.length ∧ ∀ (j : Nat) (r s : Int), j < i → l[a + j]? = some r → pat[j]? = some s → sameR fold r s = true)
    (fun us _ => match us with | [.int _ a] => (pat.length - a).toNat | _ => 0) ⟨rfl, 0, rfl, Nat.zero_le _, fun j r s hj => by omega⟩ ?_
  rintro us vs w2 ⟨rfl, i, rfl, hi, hb⟩
  unfold S.bodkinref39_Query_Found_L1
  rw [Go.Lift.hd, sBin_lss, sIf_dec]
  refine ⟨fun hlt => ?_, fun hge => ?_⟩
  · obtain ⟨s, hs⟩ : ∃ s, pat[i]? = some s := ⟨_, List.getElem?_eq_getElem (by omega)⟩
    obtain ⟨r, hr⟩ : ∃ r, l[a + i]? = some r := ⟨_, List.getElem?_eq_getElem (by omega)⟩
    obtain ⟨b1, o1, hel1, hc1⟩ := hw1.el hs
    obtain ⟨b2, o2, hel2, hc2⟩ := hl1.el hr
    have hstep : sameR fold r s = true → (w2 = w2 ∧ ∃ i' : Nat, [Value.int .i64 ((i : Int) + 1)] = [.int .i64 i'] ∧ i' ≤ pat.length ∧ ∀ (j : Nat) (r s : Int), j < i' → l[a + j]? = some r → pat[j]? = some s → sameR fold r s = true) := by
      intro h
      refine ⟨rfl, i + 1, by simp, by omega, fun j r' s' hj hr' hs' => ?_⟩
      rcases Nat.lt_or_ge j i with h1 | h1
      · exact hb j r' s' h1 hr' hs'
      · obtain rfl : j = i := by omega
        rw [hr] at hr'
        rw [hs] at hs'
        cases hr'
        cases hs'
        exact h
    have hfail : sameR fold r s = false → ((false : Bool) = true ↔ fnd l pat fold word a) := by
      intro h
      simp only [Bool.false_eq_true, false_iff]
      intro k
      rw [(eqAll_iff hle').1 k.2.1 i r s hr hs] at h
      cases h
    rw [sIdxA_sl S.tel_L_int32 S.tsz_int32 (by omega) hw1 hs rfl, hel1, sLoad_cell (v := .int .i32 s) S.tcell_int32 (hc1.fst rfl), sBin_add _ _ ⟨by omega, by omega⟩, sIdxA_sl S.tel_L_int32 S.tsz_int32 (by omega) hl1 hr (by omega), hel2, sLoad_cell (v := .int .i32 r) S.tcell_int32 (hc2.fst rfl), sBin_neq, sIf_not]
    refine ⟨fun hne => ?_, fun heq => ?_⟩
    · rw [sFldA_ptr S.tfl_bodkinref39_Query_Fold, sLoad_cell (v := .bool fold) S.tcell_bool (c3.at 1 rfl), sIf_bool]
      refine ⟨fun hf => ?_, fun hf => ?_⟩
      · subst hf
        refine (dsmall_spec r).mono ?_
        rintro u w3 ⟨rfl, rfl⟩
        refine (dsmall_spec s).mono ?_
        rintro u w4 ⟨rfl, rfl⟩
        rw [sBin_eql, sUn_not, sIf_not]
        refine ⟨fun h => ⟨e1, false, rfl, hfail (by simp [sameR, h])⟩, fun h => ?_⟩
        rw [sBin_add _ _ ⟨by omega, by omega⟩]
        exact ⟨hstep (by simp [sameR, h]), by simp only []; omega⟩
      · subst hf
        rw [sUn_not, sIf_bool]
        refine ⟨fun h => ⟨e1, false, rfl, hfail (by simp [sameR, hne])⟩, fun h => by cases h⟩
    · subst heq
      rw [sBin_add _ _ ⟨by omega, by omega⟩]
      exact ⟨hstep (sameR_refl _ _), by simp only []; omega⟩
  · have hall := (eqAll_iff (fold := fold) hle').2 fun j r s hr hs => hb j r s (by have := (List.getElem?_eq_some_iff.1 hs).1; omega) hr hs
    rw [sFldA_ptr S.tfl_bodkinref39_Query_Word, sLoad_cell (v := .bool word) S.tcell_bool (c3.at 2 rfl), sUn_not, sIf_bool]
    refine ⟨fun h => ⟨e1, true, rfl, ?_⟩, fun h => ?_⟩
    · simp only [true_iff]
      exact ⟨hle', hall, fun k => by rw [k] at h; cases h⟩
    have hwd : word = true := by cases word <;> simp_all
    have hfn : ∀ q : Bool, (¬ (ltr pat 0 = true ∧ ltr l ((a : Int) - 1) = true)) → (q = true ↔ ¬ (ltr pat ((pat.length : Int) - 1) = true ∧ ltr l ((a : Int) + pat.length) = true)) → (q = true ↔ fnd l pat fold word a) := by
      intro q h1 h2
      rw [h2]
      exact ⟨fun h => ⟨hle', hall, fun _ => ⟨h1, h⟩⟩, fun h => (h.2.2 hwd).2⟩
    rw [sFldA_ptr S.tfl_bodkinref39_Query_Want, sLoad_cell S.tcell_L_int32 (c3.at 0 rfl)]
    refine (dletter_spec hw1 0).mono ?_
    rintro u w3 ⟨rfl, rfl⟩
    rw [sIf_bool]
    have tail : ∀ (A B C D : Prop), True := fun _ _ _ _ => trivial
    refine ⟨fun h1 => ?_, fun h1 => ?_⟩
    · rw [sBin_sub _ _ ⟨by omega, by omega⟩]
      refine (dletter_spec hl1 _).mono ?_
      rintro u w4 ⟨rfl, rfl⟩
      rw [sUn_not, sIf_bool]
      refine ⟨fun h2 => ?_, fun h2 => ⟨e1, false, rfl, ?_⟩⟩
      case refine_2 =>
        simp only [Bool.false_eq_true, false_iff]
        intro k
        have := (k.2.2 hwd).1
        rw [h1] at this
        cases h3 : ltr l ((a : Int) - 1)
        · rw [h3] at h2; cases h2
        · exact this ⟨rfl, h3⟩
      have hA : ¬ (ltr pat 0 = true ∧ ltr l ((a : Int) - 1) = true) := by
        rintro ⟨_, k⟩
        rw [k] at h2
        cases h2
      rw [sFldA_ptr S.tfl_bodkinref39_Query_Want, sLoad_cell S.tcell_L_int32 (c3.at 0 rfl), sBin_sub _ _ ⟨by omega, by omega⟩]
      refine (dletter_spec hw1 _).mono ?_
      rintro u w5 ⟨rfl, rfl⟩
      rw [sIf_bool]
      refine ⟨fun h3 => ?_, fun h3 => ?_⟩
      · rw [sBin_add _ _ ⟨by omega, by omega⟩]
        refine (dletter_spec hl1 _).mono ?_
        rintro u w6 ⟨rfl, rfl⟩
        rw [sUn_not]
        exact ⟨e1, _, rfl, hfn _ hA (by rw [h3]; cases ltr l ((a : Int) + pat.length) <;> simp)⟩
      · rw [sUn_not]
        exact ⟨e1, _, rfl, hfn _ hA (by rw [h3]; simp)⟩
    · rw [sUn_not, sIf_bool]
      refine ⟨fun h2 => ?_, fun h2 => by cases h2⟩
      have hA : ¬ (ltr pat 0 = true ∧ ltr l ((a : Int) - 1) = true) := by
        rintro ⟨k, _⟩
        rw [k] at h1
        cases h1
      rw [sFldA_ptr S.tfl_bodkinref39_Query_Want, sLoad_cell S.tcell_L_int32 (c3.at 0 rfl), sBin_sub _ _ ⟨by omega, by omega⟩]
      refine (dletter_spec hw1 _).mono ?_
      rintro u w5 ⟨rfl, rfl⟩
      rw [sIf_bool]
      refine ⟨fun h3 => ?_, fun h3 => ?_⟩
      · rw [sBin_add _ _ ⟨by omega, by omega⟩]
        refine (dletter_spec hl1 _).mono ?_
        rintro u w6 ⟨rfl, rfl⟩
        rw [sUn_not]
        exact ⟨e1, _, rfl, hfn _ hA (by rw [h3]; cases ltr l ((a : Int) + pat.length) <;> simp)⟩
      · rw [sUn_not]
        exact ⟨e1, _, rfl, hfn _ hA (by rw [h3]; simp)⟩
theorem dall_spec (hw : Sl w wv 1 encRn pat) (hl : Sl w lv 1 encRn l) (hn : pat.length ≤ 1000000) (hm : l.length ≤ 1000000) : sCall Tryd.prog S.bodkinref39_Query_All.n [.agg [wv, .bool fold, .bool word].toArray, lv] w fun u w' => Ext w w' ∧ Row w' w.heap.size S.T.api_Span 2 u encV (refA (fnd l pat fold word) pat.length l.length).2 := by
  refine S.bodkinref39_Query_All.call ?_
  unfold S.bodkinref39_Query_All
  have hmx : maxLen = 9223372036854775807 := rfl
  refine sBox_new (cs := [wv, .bool fold, .bool word]) rfl fun b2 w1 hb2 hs1 e1 hk2 => ?_
  have hw1 := hw.ext e1
  have hl1 := hl.ext e1
  have c2 := hk2.cells
  rw [sLen_sl S.tel_L_int32 hl1]
  refine LoopS.intro (fun us w' => Ext w1 w' ∧ ∃ (i e : Nat) (o : Value) (xs : List Sp), us = [.int .i64 e, o, .int .i64 i] ∧ i ≤ l.length ∧ refA (fnd l pat fold word) pat.length i = (e, xs) ∧ Row w' w1.heap.size S.T.api_Span 2 o encV xs)
    (fun us _ => match us with | [_, _, .int _ a] => (l.length - a).toNat | _ => 0) ⟨Ext.refl _, 0, 0, _, [], rfl, Nat.zero_le _, rfl, Row.nil _ _ _ _ _⟩ ?_
  rintro us vs w3 ⟨e3, i, e, o, xs, rfl, hi, hR, ho⟩
  unfold S.bodkinref39_Query_All_L1
  have hxl : xs.length ≤ 500 := by have := refA_len (fnd l pat fold word) pat.length i; rw [hR] at this; exact this
  rw [Go.Lift.hd, Go.Lift.tl, Go.Lift.hd, Go.Lift.tl, Go.Lift.hd, sBin_lss, sIf_dec]
  refine ⟨fun hlt => ?_, fun hge => ?_⟩
  case refine_2 =>
    obtain rfl : i = l.length := by omega
    rw [hR]
    exact ⟨e1.trans e3, ho.mono e1.size⟩
  refine JoinS.intro (fun us w' => Ext w1 w' ∧ Row w' w1.heap.size S.T.api_Span 2 o encV xs ∧ ∃ q : Bool, us = [.bool q] ∧ (q = true ↔ e ≤ i ∧ xs.length < 500 ∧ fnd l pat fold word i)) ?_ ?_
  · rw [sBin_geq, sIf_dec]
    refine ⟨fun h1 => ?_, fun h1 => ⟨e3, ho, false, rfl, ?_⟩⟩
    case refine_2 =>
      simp only [Bool.false_eq_true, false_iff]
      exact fun k => h1 (by omega)
    rw [sLen_sl S.tel_L_api_Span (ho.sl encV_ok), sBin_lss, sIf_dec]
    refine ⟨fun h2 => ?_, fun h2 => ⟨e3, ho, false, rfl, ?_⟩⟩
    case refine_2 =>
      simp only [Bool.false_eq_true, false_iff]
      exact fun k => h2 (by omega)
    rw [sLoad_agg (cs := [wv, .bool fold, .bool word]) S.tagg_bodkinref39_Query (c2.ext e3) rfl]
    refine (dfound_spec (hw1.ext e3) (hl1.ext e3) hn hm i (by omega)).mono ?_
    rintro u w4 ⟨e4, q, rfl, hq⟩
    exact ⟨e3.trans e4, ho.ext e4, q, rfl, by rw [hq]; exact ⟨fun h => ⟨by omega, by omega, h⟩, fun h => h.2.2⟩⟩
  rintro us vs w4 ⟨e4, ho4, q, rfl, hq⟩
  unfold S.bodkinref39_Query_All_J2
  rw [Go.Lift.hd, sIf_bool]
  refine ⟨fun hy => ?_, fun hno => ?_⟩
  · obtain ⟨q1, q2, q3⟩ := hq.1 hy
    rw [sFldA_ptr S.tfl_bodkinref39_Query_Want, sLoad_cell S.tcell_L_int32 ((c2.ext e4).at 0 rfl), sLen_sl S.tel_L_int32 (hw1.ext e4), sBin_add _ _ ⟨by omega, by omega⟩, sBuild_of (cs := encV ((i : Int), (i : Int) + pat.length)) (lp := [(0, [.int .i64 i]), (1, [.int .i64 ((i : Int) + pat.length)])]) S.tze_api_Span S.tpl_api_Span rfl rfl]
    refine sBuildSlice_own (n := 1) (enc := encV) (xs := [((i : Int), (i : Int) + pat.length)]) (lp := [(0, encV ((i : Int), (i : Int) + pat.length))]) S.tel_L_api_Span S.tsz_api_Span rfl S.tze_api_Span (by decide) (by decide) encV_ok rfl rfl fun tt w5 ht' ho5 e5 hs5 => ?_
    have e15 := e4.trans e5
    refine sAppend_row S.tel_L_api_Span S.tsz_api_Span (by decide) S.tze_api_Span rfl encV_ok (ho4.ext e5) e15.size (ho5.sl encV_ok) (by simp; omega) (by rw [S.tby_api_Span]; simp; omega) fun o' w6 ho6 hg6 _ => ?_
    have hog : ∀ g, o.ownBlock = some g → w1.heap.size ≤ g := fun g hg => (ho4.lt g hg).1
    rw [sBin_add _ _ ⟨by omega, by omega⟩]
    exact ⟨⟨e15.wr hg6 hog, i + 1, i + pat.length, o', _, by simp, by omega, refA_yes hR q1 q2 q3, ho6⟩, by simp only []; omega⟩
  · rw [sBin_add _ _ ⟨by omega, by omega⟩]
    refine ⟨⟨e4, i + 1, e, o, xs, by simp, by omega, refA_no hR fun k => ?_, ho4⟩, by simp only []; omega⟩
    rw [hq.2 k] at hno
    cases hno
end
theorem lawref_spec {w : World} (t : List UInt8) (fold word : Bool) (ht : t.length ≤ 1000000) : sCall Tryd.prog S.bodkinlaw39_ref.n [.agg (encY t fold word).toArray] w fun u w' => Ext w w' ∧ ∃ wv : Value, u = .agg [wv, .bool fold, .bool word].toArray ∧ (wv.cells = [wv].toArray ∧ wv.oneCell' = true) ∧ Sl w' wv 1 encRn (runes t) := by
  refine S.bodkinlaw39_ref.call ?_
  unfold S.bodkinlaw39_ref
  refine sBox_new (cs := encY t fold word) rfl fun b1 w1 hb1 hs1 e1 hk1 => ?_
  refine sAlloc_new S.tze_bodkinref39_Query fun b2 w2 hb2 hs2 e2 hk2 => ?_
  have E2 := e1.trans e2
  refine DrawS.ext ?_
  have E0 : Ext w2 w2.drew := (Ext.refl w2).drew
  have c1 := hk1.cells.ext e2
  rw [stillS_eq (fun w' h1 K => sFldA_ptr S.tfl_find_Query_Text) E0, stillS_cell (v := tv t) S.tcell_string (c1.at 0 rfl) E0, stillS_eq (fun w' h1 K => sFldA_ptr S.tfl_find_Query_Fold) E0, stillS_cell (v := .bool fold) S.tcell_bool (c1.at 1 rfl) E0, stillS_eq (fun w' h1 K => sFldA_ptr S.tfl_find_Query_Word) E0, stillS_cell (v := .bool word) S.tcell_bool (c1.at 2 rfl) E0]
  refine (ddecode_spec t (by omega)).mono ?_
  rintro wv w3 ⟨e3, hw⟩
  have C3 := E0.trans e3
  refine ⟨C3, ?_⟩
  have hsh := hw.shape
  rw [stillS_eq (fun w' h1 K => sBuild_of (cs := [wv, .bool fold, .bool word]) (lp := [(0, [wv]), (1, [.bool fold]), (2, [.bool word])]) S.tze_bodkinref39_Query S.tpl_bodkinref39_Query (by simp only [List.map_cons, List.map_nil, hsh.1]; rfl) rfl) C3]
  have s1 := e1.size
  have s2 := C3.size
  refine sStore_blk S.tsz_bodkinref39_Query (by decide) (hk2.ext C3) (vs := [wv, .bool fold, .bool word]) rfl rfl (by simp) (by intro u hu; simp at hu; rcases hu with rfl | rfl | rfl; exact hsh.2; rfl; rfl) fun w4 hs4 hg4 hk4 => ?_
  rw [sLoad_agg (cs := [wv, .bool fold, .bool word]) S.tagg_bodkinref39_Query hk4.cells rfl]
  have e4 : Ext w w4 := (E2.trans C3).wr hg4 (by rintro _ ⟨⟩; omega)
  refine ⟨rfl, e4, wv, rfl, hsh, ?_⟩
  have hne : wv.ownBlock = none ∨ wv.ownBlock ≠ some b2 := by
    cases h : wv.ownBlock with
    | none => exact .inl rfl
    | some g =>
      refine .inr fun k => ?_
      have := (hw.lt g h).1
      cases k
      have := E0.size
      omega
  exact (hw.wr hg4 hne).sl encRn_ok
/-! ## The next, the last, edits -/
theorem find_at {P : Sp → Bool} {xs : List Sp} {i : Nat} {x : Sp} (hx : xs[i]? = some x) (hp : P x = true) (hb : ∀ y ∈ xs.take i, P y = false) : xs.find? P = some x := by
  have h2 := take_succ_of hx
  have h3 := List.take_append_drop (i + 1) xs
  rw [h2, List.append_assoc] at h3
  rw [← h3, List.find?_append, List.find?_eq_none.2 (fun y hy => by rw [hb y hy]; decide)]
  simp [hp]
def nextP (a : Int) (x : Sp) : Bool := decide (a ≤ x.1)
def lastP (a : Int) (x : Sp) : Bool := decide (x.2 ≤ a)
def nextS (a : Int) (xs : List Sp) : Sp := (xs.find? (nextP a)).getD (xs.head?.getD (0, 0))
def lastS (a : Int) (xs : List Sp) : Sp := (xs.reverse.find? (lastP a)).getD (xs.reverse.head?.getD (0, 0))
theorem next1_spec {w : World} {b : Nat} {a : Int} {x : Sp} (hk : Cells w b 0 [.int .i64 a]) : sDyn Tryd.prog (.func (.func S.find_Next_1.n) #[] #[.pointer (some ⟨b, 0, none⟩)]) [.agg (encV x).toArray] w fun u w' => Ext w w' ∧ u = .bool (nextP a x) := by
  rw [sDyn_func]
  refine S.find_Next_1.call ?_
  unfold S.find_Next_1
  refine sBox_new (cs := encV x) rfl fun b2 w1 hb2 hs1 e1 hk2 => ?_
  rw [sFldA_ptr S.tfl_api_Span_From, sLoad_cell (v := .int .i64 x.1) S.tcell_int (hk2.cells.at 0 rfl), sLoad_cell (v := .int .i64 a) S.tcell_int ((hk.ext e1).fst rfl), sBin_geq]
  exact ⟨e1, rfl⟩
theorem idxs_spec {w : World} {b : Nat} {v : Value} {a : Int} {xs : List Sp} (hk : Cells w b 0 [.int .i64 a]) (hl : Sl w v 2 encV xs) (hn : xs.length ≤ 1000000) : sCall Tryd.prog S.slices_IndexFunc.n [v, .func (.func S.find_Next_1.n) #[] #[.pointer (some ⟨b, 0, none⟩)]] w fun u w' => Ext w w' ∧ ∃ z : Int, u = .int .i64 z ∧
    ((z = -1 ∧ ∀ x ∈ xs, nextP a x = false) ∨ ∃ (i : Nat) (x : Sp), z = i ∧ xs[i]? = some x ∧ nextP a x = true ∧ ∀ y ∈ xs.take i, nextP a y = false) := by
  refine S.slices_IndexFunc.call ?_
  unfold S.slices_IndexFunc
  rw [sLen_sl S.tel_L_api_Span hl]
  refine LoopS.intro (fun us w1 => Ext w w1 ∧ ∃ i : Nat, us = [.int .i64 i] ∧ i ≤ xs.length ∧ ∀ y ∈ xs.take i, nextP a y = false)
    (fun us _ => match us with | [.int _ a] => (xs.length - a).toNat | _ => 0) ⟨Ext.refl w, 0, rfl, Nat.zero_le _, fun y hy => by simp at hy⟩ ?_
  rintro us vs w1 ⟨e1, i, rfl, hi, hb⟩
  unfold S.slices_IndexFunc_L1
  rw [Go.Lift.hd, sBin_lss, sIf_dec]
  refine ⟨fun hlt => ?_, fun hge => ?_⟩
  · obtain ⟨x, hx⟩ : ∃ x, xs[i]? = some x := ⟨_, List.getElem?_eq_getElem (by omega)⟩
    obtain ⟨bb, of, hel, hc⟩ := (hl.ext e1).el hx
    rw [sIdxA_sl S.tel_L_api_Span S.tsz_api_Span (by omega) (hl.ext e1) hx rfl, hel, sLoad_agg (cs := encV x) S.tagg_api_Span hc rfl]
    refine sDyn_mono ?_ (next1_spec (x := x) (hk.ext e1))
    rintro u w2 ⟨e2, rfl⟩
    rw [sIf_bool]
    refine ⟨fun h => ⟨e1.trans e2, _, rfl, .inr ⟨i, x, rfl, hx, h, hb⟩⟩, fun h => ?_⟩
    rw [sBin_add _ _ ⟨by omega, by omega⟩]
    refine ⟨⟨e1.trans e2, i + 1, by simp, by omega, fun y hy => ?_⟩, by simp only []; omega⟩
    rw [take_succ_of hx, List.mem_append] at hy
    rcases hy with hy | hy
    · exact hb y hy
    · simp only [List.mem_singleton] at hy
      subst hy
      exact h
  · obtain rfl : i = xs.length := by omega
    rw [List.take_length] at hb
    exact ⟨e1, _, rfl, .inl ⟨rfl, hb⟩⟩
theorem next_spec {w : World} {v : Value} {xs : List Sp} (hl : Sl w v 2 encV xs) (hn : xs.length ≤ 1000000) (a : Int) : sCall Tryd.prog S.find_Next.n [v, .int .i64 a] w fun u w' => Ext w w' ∧ u = .tuple #[.agg (encV (nextS a xs)).toArray, .bool (decide (0 < xs.length))] := by
  refine S.find_Next.call ?_
  unfold S.find_Next
  refine sBox_new (cs := [.int .i64 a]) rfl fun b3 w1 hb3 hs1 e1 hk3 => ?_
  refine sAlloc_new S.tze_api_Span fun b4 w2 hb4 hs2 e2 hk4 => ?_
  have E2 := e1.trans e2
  have s1 := e1.size
  have hl2 := hl.ext E2
  rw [sLen_sl S.tel_L_api_Span hl2, sBin_eql, sIf_dec]
  refine ⟨fun h0 => ?_, fun h0 => ?_⟩
  · obtain rfl : xs = [] := List.eq_nil_of_length_eq_zero (by omega)
    rw [sBuild_of (cs := encV (0, 0)) (lp := []) S.tze_api_Span S.tpl_api_Span rfl rfl]
    refine sStore_blk S.tsz_api_Span (by decide) hk4 (vs := encV (0, 0)) rfl rfl (by simp) (encV_one _) fun w3 hs3 hg3 hk5 => ?_
    rw [sLoad_agg (cs := encV (0, 0)) S.tagg_api_Span hk5.cells rfl]
    exact ⟨rfl, E2.wr hg3 (by rintro _ ⟨⟩; omega), rfl⟩
  · rw [sFunc_mk]
    refine (idxs_spec (a := a) (hk3.cells.ext e2) hl2 hn).mono ?_
    rintro u w3 ⟨e3, z, rfl, hz⟩
    have E3 := E2.trans e3
    have hix : ∃ (i : Nat) (x : Sp), (if z < 0 then 0 else z) = (i : Int) ∧ xs[i]? = some x ∧ nextS a xs = x := by
      rcases hz with ⟨rfl, hall⟩ | ⟨i, x, rfl, hx, hp, hb⟩
      · obtain ⟨x, hx⟩ : ∃ x, xs[0]? = some x := ⟨_, List.getElem?_eq_getElem (by omega)⟩
        refine ⟨0, x, rfl, hx, ?_⟩
        unfold nextS
        rw [List.find?_eq_none.2 fun y hy => by rw [hall y hy]; decide, List.head?_eq_getElem?, hx]
        rfl
      · refine ⟨i, x, by rw [if_neg (by omega)], hx, ?_⟩
        unfold nextS
        rw [find_at hx hp hb]
        rfl
    obtain ⟨i, x, hi, hx, hnx⟩ := hix
    have hl3 := hl.ext E3
    obtain ⟨bb, of, hel, hc⟩ := hl3.el hx
    rw [sMax_two, hi, sIdxA_sl S.tel_L_api_Span S.tsz_api_Span (by omega) hl3 hx rfl, hel, sLoad_agg (cs := encV x) S.tagg_api_Span hc rfl]
    refine sStore_blk S.tsz_api_Span (by decide) (hk4.ext e3) (vs := encV x) rfl rfl (by simp) (encV_one _) fun w4 hs4 hg4 hk5 => ?_
    rw [sLoad_agg (cs := encV x) S.tagg_api_Span hk5.cells rfl]
    refine ⟨rfl, E3.wr hg4 (by rintro _ ⟨⟩; omega), ?_⟩
    have hpos : 0 < xs.length := Nat.pos_of_ne_zero fun k => h0 (by rw [k]; rfl)
    rw [hnx, decide_eq_true hpos]
theorem last_spec {w : World} {v : Value} {xs : List Sp} (hl : Sl w v 2 encV xs) (hn : xs.length ≤ 1000000) (a : Int) : sCall Tryd.prog S.find_Last.n [v, .int .i64 a] w fun u w' => Ext w w' ∧ u = .tuple #[.agg (encV (lastS a xs)).toArray, .bool (decide (0 < xs.length))] := by
  refine S.find_Last.call ?_
  unfold S.find_Last
  refine sAlloc_new S.tze_api_Span fun b4 w2 hb4 hs2 e2 hk4 => ?_
  rw [sLen_sl S.tel_L_api_Span (hl.ext e2), sBin_sub _ _ ⟨by omega, by omega⟩]
  have hl2 := hl.ext e2
  refine LoopS.intro (fun us w1 => w1 = w2 ∧ ∃ j : Nat, us = [.int .i64 ((xs.length : Int) - 1 - j)] ∧ j ≤ xs.length ∧ ∀ y ∈ xs.reverse.take j, lastP a y = false)
    (fun us _ => match us with | [.int _ a] => (a + 1).toNat | _ => 0) ⟨rfl, 0, by simp, Nat.zero_le _, fun y hy => by simp at hy⟩ ?_
  rintro us vs w1 ⟨rfl, j, rfl, hj, hb⟩
  unfold S.find_Last_L1
  rw [Go.Lift.hd, sBin_geq, sIf_dec]
  refine ⟨fun hge => ?_, fun hlt => ?_⟩
  · obtain ⟨x, hx⟩ : ∃ x, xs[xs.length - 1 - j]? = some x := ⟨_, List.getElem?_eq_getElem (by omega)⟩
    have hrx : xs.reverse[j]? = some x := by rw [List.getElem?_reverse (by omega)]; exact hx
    obtain ⟨bb, of, hel, hc⟩ := hl2.el hx
    rw [sIdxA_sl S.tel_L_api_Span S.tsz_api_Span (by omega) hl2 hx (by omega), hel, sFldA_ptr S.tfl_api_Span_To, sLoad_cell (v := .int .i64 x.2) S.tcell_int (hc.at 1 rfl), sBin_leq, sIf_dec]
    refine ⟨fun hle => ?_, fun hgt => ?_⟩
    · rw [sIdxA_sl S.tel_L_api_Span S.tsz_api_Span (by omega) hl2 hx (by omega), hel, sLoad_agg (cs := encV x) S.tagg_api_Span hc rfl]
      refine sStore_blk S.tsz_api_Span (by decide) hk4 (vs := encV x) rfl rfl (by simp) (encV_one _) fun w4 hs4 hg4 hk5 => ?_
      rw [sLoad_agg (cs := encV x) S.tagg_api_Span hk5.cells rfl]
      refine ⟨rfl, e2.wr hg4 (by rintro _ ⟨⟩; omega), ?_⟩
      have : lastS a xs = x := by
        unfold lastS
        rw [find_at hrx (decide_eq_true hle) hb]
        rfl
      have hpos : 0 < xs.length := by have := (List.getElem?_eq_some_iff.1 hx).1; omega
      rw [this, decide_eq_true hpos]
    · rw [sBin_sub _ _ ⟨by omega, by omega⟩]
      refine ⟨⟨rfl, j + 1, by congr 2; omega, by omega, fun y hy => ?_⟩, by simp only []; omega⟩
      rw [take_succ_of hrx, List.mem_append] at hy
      rcases hy with hy | hy
      · exact hb y hy
      · simp only [List.mem_singleton] at hy
        subst hy
        exact decide_eq_false hgt
  · obtain rfl : j = xs.length := by omega
    rw [List.take_of_length_le (by simp)] at hb
    have hnone : xs.reverse.find? (lastP a) = none := List.find?_eq_none.2 fun y hy => by rw [hb y hy]; decide
    rw [sLen_sl S.tel_L_api_Span hl2, sBin_eql, sIf_dec]
    refine ⟨fun h0 => ?_, fun h0 => ?_⟩
    · obtain rfl : xs = [] := List.eq_nil_of_length_eq_zero (by omega)
      rw [sBuild_of (cs := encV (0, 0)) (lp := []) S.tze_api_Span S.tpl_api_Span rfl rfl]
      refine sStore_blk S.tsz_api_Span (by decide) hk4 (vs := encV (0, 0)) rfl rfl (by simp) (encV_one _) fun w3 hs3 hg3 hk5 => ?_
      rw [sLoad_agg (cs := encV (0, 0)) S.tagg_api_Span hk5.cells rfl]
      exact ⟨rfl, e2.wr hg3 (by rintro _ ⟨⟩; omega), rfl⟩
    · obtain ⟨x, hx⟩ : ∃ x, xs[xs.length - 1]? = some x := ⟨_, List.getElem?_eq_getElem (by omega)⟩
      have hrx : xs.reverse[0]? = some x := by rw [List.getElem?_reverse (by omega)]; exact hx
      obtain ⟨bb, of, hel, hc⟩ := hl2.el hx
      rw [sLen_sl S.tel_L_api_Span hl2, sBin_sub _ _ ⟨by omega, by omega⟩, sIdxA_sl S.tel_L_api_Span S.tsz_api_Span (by omega) hl2 hx (by omega), hel, sLoad_agg (cs := encV x) S.tagg_api_Span hc rfl]
      refine sStore_blk S.tsz_api_Span (by decide) hk4 (vs := encV x) rfl rfl (by simp) (encV_one _) fun w4 hs4 hg4 hk5 => ?_
      rw [sLoad_agg (cs := encV x) S.tagg_api_Span hk5.cells rfl]
      refine ⟨rfl, e2.wr hg4 (by rintro _ ⟨⟩; omega), ?_⟩
      have : lastS a xs = x := by
        unfold lastS
        rw [hnone, List.head?_eq_getElem?, hrx]
        rfl
      have hpos : 0 < xs.length := by have := (List.getElem?_eq_some_iff.1 hx).1; omega
      rw [this, decide_eq_true hpos]
def edOf (t : List UInt8) (x : Sp) : Ed := (x.1, x.2, t)
theorem replace_spec {w : World} {v : Value} {xs : List Sp} (hl : Sl w v 2 encV xs) (hn : xs.length ≤ 1000000) (t : List UInt8) : sCall Tryd.prog S.find_Replace.n [v, tv t] w fun u w' => Ext w w' ∧ Row w' w.heap.size S.T.api_Edit 3 u encE ((xs.take 64).map (edOf t)) := by
  refine S.find_Replace.call ?_
  unfold S.find_Replace
  have hmx : maxLen = 9223372036854775807 := rfl
  have hcap := sl_cap hl
  have hmin : (if (64 : Int) < (xs.length : Int) then (64 : Int) else (xs.length : Int)) = ((min 64 xs.length : Nat) : Int) := by split <;> omega
  rw [sLen_sl S.tel_L_api_Span hl, sMin_int, hmin, sSlice_h (hi := min 64 xs.length) S.tel_L_api_Span S.tsz_api_Span (by omega) hl rfl (by omega)]
  have p1 : Sl w (slV v 2 0 (min 64 xs.length) (capV v)) 2 encV (xs.take 64) := by
    have := hl.part (lo := 0) (hi := min 64 xs.length) (mx := capV v) (by omega) (by omega) (by omega) (Nat.le_refl _)
    rw [List.drop_zero] at this
    have he : xs.take (min 64 xs.length) = xs.take 64 := by
      rcases Nat.le_total 64 xs.length with h | h
      · rw [Nat.min_eq_left h]
      · rw [Nat.min_eq_right h, List.take_length, List.take_of_length_le h]
    rwa [he] at this
  generalize hys : xs.take 64 = ys at *
  have hyl : ys.length ≤ 64 := by rw [← hys, List.length_take]; omega
  generalize slV v 2 0 (min 64 xs.length) (capV v) = v' at *
  rw [sLen_sl S.tel_L_api_Span p1]
  refine LoopS.intro (fun us w1 => Ext w w1 ∧ ∃ (i : Nat) (o : Value), us = [o, .int .i64 i] ∧ i ≤ ys.length ∧ Row w1 w.heap.size S.T.api_Edit 3 o encE ((ys.take i).map (edOf t)))
    (fun us _ => match us with | [_, .int _ a] => (ys.length - a).toNat | _ => 0) ⟨Ext.refl w, 0, _, rfl, Nat.zero_le _, Row.nil _ _ _ _ _⟩ ?_
  rintro us vs w1 ⟨e1, i, o, rfl, hi, ho⟩
  unfold S.find_Replace_L1
  rw [Go.Lift.hd, Go.Lift.tl, Go.Lift.hd, sBin_lss, sIf_dec]
  refine ⟨fun hlt => ?_, fun hge => ?_⟩
  · obtain ⟨x, hx⟩ : ∃ x, ys[i]? = some x := ⟨_, List.getElem?_eq_getElem (by omega)⟩
    obtain ⟨bb, of, hel, hc⟩ := (p1.ext e1).el hx
    rw [sIdxA_sl S.tel_L_api_Span S.tsz_api_Span (by omega) (p1.ext e1) hx rfl, hel, sLoad_agg (cs := encV x) S.tagg_api_Span hc rfl]
    refine sVar (vs := encV x) S.tze_api_Span S.tsz_api_Span (by decide) rfl rfl (encV_one x) fun b7 w2 hb7 hs2 e2 hk7 => ?_
    rw [sFldA_ptr S.tfl_api_Span_From, sLoad_cell (v := .int .i64 x.1) S.tcell_int (hk7.cells.at 0 rfl), sFldA_ptr S.tfl_api_Span_To, sLoad_cell (v := .int .i64 x.2) S.tcell_int (hk7.cells.at 1 rfl),
      sBuild_of (cs := encE (edOf t x)) (lp := [(0, [.int .i64 x.1]), (1, [.int .i64 x.2]), (2, [tv t])]) S.tze_api_Edit S.tpl_api_Edit rfl rfl]
    refine sBuildSlice_own (n := 1) (enc := encE) (xs := [edOf t x]) (lp := [(0, encE (edOf t x))]) S.tel_L_api_Edit S.tsz_api_Edit rfl S.tze_api_Edit (by decide) (by decide) encE_ok rfl rfl fun tt w3 ht' ho3 e3 hs3 => ?_
    have e13 := e2.trans e3
    have E3 := e1.trans e13
    refine sAppend_row S.tel_L_api_Edit S.tsz_api_Edit (by decide) S.tze_api_Edit rfl encE_ok (ho.ext e13) E3.size (ho3.sl encE_ok) (by simp; omega) (by rw [S.tby_api_Edit]; simp; omega) fun o' w4 ho4 hg4 _ => ?_
    rw [sBin_add _ _ ⟨by omega, by omega⟩]
    refine ⟨⟨E3.wr hg4 fun g hg => (ho.lt g hg).1, i + 1, o', by simp, by omega, ?_⟩, by simp only []; omega⟩
    rw [take_succ_of hx, List.map_append, List.map_singleton]
    exact ho4
  · obtain rfl : i = ys.length := by omega
    rw [List.take_length] at ho
    exact ⟨e1, ho⟩
end Go.Proofs.YthpngnngoamlpaaDoor
