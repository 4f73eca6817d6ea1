/- The document's batches: checks, applied, inverted. Conditions: not too long. -/
import Derived.Test.YtpjmmhbdondknaaDoorJ2
namespace Go.Proofs.YtpjmmhbdondknaaDoor
open Go Go.Lift Go.RowKit Go.Txt

theorem dcheck9_spec {w : World} {v : Value} {es : List Ed} (n : Int) (hl : Sl w v 3 encE es) : sCall Tryd.prog S.bodkinref09_Check.n [.int .i64 n, v] w fun u w' => Ext w w' ∧ u = .int .i64 (chk n es) := by
  refine S.bodkinref09_Check.call ?_
  unfold S.bodkinref09_Check
  rw [sLen_sl S.tel_L_api_Edit hl, sBin_gtr, sIf_dec]
  refine ⟨fun h => ⟨Ext.refl w, by unfold chk; rw [if_pos (by omega)]⟩, fun h64 => ?_⟩
  have hchk : chk n es = chkL n 0 es := by unfold chk; rw [if_neg (by omega)]
  rw [hchk, sLen_sl S.tel_L_api_Edit hl]
  refine LoopS.intro (fun us w1 => Ext w w1 ∧ ∃ (i : Nat) (last : Int), us = [.int .i64 last, .int .i64 i] ∧ i ≤ es.length ∧ chkL n 0 es = chkL n last (es.drop i))
    (fun us _ => match us with | [_, .int _ a] => (es.length - a).toNat | _ => 0) ⟨Ext.refl w, 0, 0, rfl, Nat.zero_le _, rfl⟩ ?_
  rintro us vs w1 ⟨e1, i, last, rfl, hi, hc⟩
  unfold S.bodkinref09_Check_L1
  rw [Go.Lift.hd, Go.Lift.tl, Go.Lift.hd, sBin_lss, sIf_dec]
  refine ⟨fun hlt => ?_, fun hge => ?_⟩
  · obtain ⟨x, hx⟩ : ∃ x, es[i]? = some x := ⟨_, List.getElem?_eq_getElem (by omega)⟩
    obtain ⟨b, of, hel, hcl⟩ := (hl.ext e1).el hx
    rw [drop_cons_of hx, chkL] at hc
    rw [sIdxA_sl S.tel_L_api_Edit S.tsz_api_Edit (by omega) (hl.ext e1) hx rfl, hel, sLoad_agg (cs := encE x) S.tagg_api_Edit hcl rfl]
    refine sVar (vs := encE x) S.tze_api_Edit S.tsz_api_Edit (by decide) rfl rfl (encE_one x) fun b7 w2 hb7 hs2 e2 hk7 => ?_
    have E2 := e1.trans e2
    rw [sFldA_ptr S.tfl_api_Edit_From, sLoad_cell (v := .int .i64 x.1) S.tcell_int (hk7.cells.at 0 rfl), sFldA_ptr S.tfl_api_Edit_To, sLoad_cell (v := .int .i64 x.2.1) S.tcell_int (hk7.cells.at 1 rfl)]
    refine (dinside_spec _ _ _).mono ?_
    rintro u w3 ⟨rfl, q, rfl, hq⟩
    rw [sUn_not, sIf_bool]
    refine ⟨fun hF => ⟨E2, ?_⟩, fun hT => ?_⟩
    · have : ¬ (0 ≤ x.1 ∧ x.1 ≤ x.2.1 ∧ x.2.1 ≤ n) := fun h => by rw [hq.2 h] at hF; cases hF
      rw [hc, if_neg this]
    · have hin := hq.1 (by simpa using hT)
      rw [if_pos hin] at hc
      rw [sFldA_ptr S.tfl_api_Edit_From, sLoad_cell (v := .int .i64 x.1) S.tcell_int (hk7.cells.at 0 rfl), sBin_lss, sIf_dec]
      refine ⟨fun h => ⟨E2, by rw [hc, if_pos h]⟩, fun h => ?_⟩
      rw [if_neg h] at hc
      rw [sFldA_ptr S.tfl_api_Edit_To, sLoad_cell (v := .int .i64 x.2.1) S.tcell_int (hk7.cells.at 1 rfl), sBin_add _ _ ⟨by omega, by omega⟩]
      exact ⟨⟨E2, i + 1, x.2.1, by simp, by omega, hc⟩, by simp only []; omega⟩
  · obtain rfl : i = es.length := by omega
    rw [List.drop_length] at hc
    exact ⟨e1, by rw [hc]; rfl⟩
theorem dmost_spec {w : World} : sCall Tryd.prog S.bodkinref07_Most.n [] w fun u w' => w' = w ∧ u = .int .i64 20000 := by
  refine S.bodkinref07_Most.call ?_
  unfold S.bodkinref07_Most
  exact ⟨rfl, rfl⟩
theorem tnr_drop (l : List Ed) : ∀ i, tnr (l.drop i) ≤ tnr l
  | 0 => Nat.le_refl _
  | i + 1 => by
    cases l with
    | nil => simp
    | cons x l => rw [List.drop_succ_cons, tnr_cons]; have := tnr_drop l i; omega
theorem tnr_mem : ∀ {l : List Ed} {x : Ed}, x ∈ l → nr x ≤ tnr l
  | [], _, h => by cases h
  | y :: l, x, h => by
    rw [tnr_cons]
    rcases List.mem_cons.1 h with rfl | h
    · omega
    · have := tnr_mem h; omega
theorem dapply9_spec {w : World} {v l : Value} {r : List Int} {es : List Ed} (hr : Sl w v 1 encRn r) (hn : r.length ≤ 20000) (hl : Sl w l 3 encE es) (hm : Fits es) (hT : tnr es ≤ 100000) : sCall Tryd.prog S.bodkinref09_Apply.n [v, l] w fun u w' => Ext w w' ∧
    ((wrg r.length es ≠ 0 ∧ u = .tuple #[.slice none 0 0, .int .i64 (wrg r.length es)]) ∨ (wrg r.length es = 0 ∧ ∃ q : Value, u = .tuple #[q, .int .i64 0] ∧ Sl w' q 1 encRn (app r es))) := by
  refine S.bodkinref09_Apply.call ?_
  unfold S.bodkinref09_Apply
  have hmx : maxLen = 9223372036854775807 := rfl
  rw [sLen_sl S.tel_L_int32 hr]
  refine (dcheck9_spec _ hl).mono ?_
  rintro u w1 ⟨e1, rfl⟩
  rw [sBin_neq, sIf_not]
  refine ⟨fun hne => ⟨e1, .inl ?_⟩, fun h0 => ?_⟩
  · have hw : wrg r.length es = chk r.length es := by unfold wrg; rw [if_neg hne]
    rw [hw]
    exact ⟨hne, rfl⟩
  obtain ⟨h64, hv⟩ := chk_zero.1 h0
  have hsz := siz_le hv
  refine sAppend_row S.tel_L_int32 S.tsz_int32 (by decide) S.tze_int32 rfl encRn_ok (Row.nil w1 w1.heap.size _ _ _) (Nat.le_refl _) (hr.ext e1) (by simp; omega) (by rw [S.tby_int32]; simp; omega) fun v1 w2 hv1 hg2 _ => ?_
  rw [List.nil_append] at hv1
  have e2 : Ext w1 w2 := (Ext.refl w1).wr hg2 (fun g hg => by cases hg)
  have E2 := e1.trans e2
  rw [sLen_sl S.tel_L_api_Edit (hl.ext E2), sBin_sub _ _ ⟨by omega, by omega⟩]
  refine LoopS.intro (fun us w3 => Ext w w3 ∧ ∃ (k : Nat) (o : Value), us = [o, .int .i64 ((k : Int) - 1)] ∧ k ≤ es.length ∧ Sl w3 o 1 encRn (app r (es.drop k)))
    (fun us _ => match us with | [_, .int _ a] => (a + 1).toNat | _ => 0) ⟨E2, es.length, v1, rfl, Nat.le_refl _, by rw [List.drop_length]; exact hv1.sl encRn_ok⟩ ?_
  rintro us vs w3 ⟨e3, k, o, rfl, hk, ho⟩
  unfold S.bodkinref09_Apply_L1
  rw [Go.Lift.hd, Go.Lift.tl, Go.Lift.hd, sBin_geq, sIf_dec]
  refine ⟨fun hge => ?_, fun hlt => ?_⟩
  · obtain ⟨i, rfl⟩ : ∃ i, k = i + 1 := ⟨k - 1, by omega⟩
    obtain ⟨x, hx⟩ : ∃ x, es[i]? = some x := ⟨_, List.getElem?_eq_getElem (by omega)⟩
    obtain ⟨bb, of, hel, hcl⟩ := (hl.ext e3).el hx
    have hxm := List.mem_of_getElem? hx
    obtain ⟨hx1, hvd⟩ := hv.drop hx
    obtain ⟨x1, x2, x3⟩ := x
    obtain ⟨A, rfl⟩ : ∃ A : Nat, x1 = A := ⟨x1.toNat, by dsimp only at hx1; omega⟩
    obtain ⟨B, rfl⟩ : ∃ B : Nat, x2 = B := ⟨x2.toNat, by dsimp only at hx1; omega⟩
    dsimp only at hx1 hvd
    have hx2 := hm _ hxm
    dsimp only at hx2
    have hx3 := tnr_mem hxm
    have hat := app_at hvd (by omega)
    have hal := app_len (hvd.mono (show (0 : Int) ≤ B by omega))
    have hsd := siz_le (hvd.mono (show (0 : Int) ≤ B by omega))
    have htd := tnr_drop es (i + 1)
    have hi : ((i + 1 : Nat) : Int) - 1 = i := by omega
    refine DrawS.ext ?_
    have E : Ext w3 w3.drew := (Ext.refl w3).drew
    rw [hi, stillS_eq (fun w1 h1 K => sIdxA_sl (z := (i : Int)) S.tel_L_api_Edit S.tsz_api_Edit (by omega) ((hl.ext e3).ext h1) hx rfl) E, hel, stillS_eq (fun w1 h1 K => sFldA_ptr S.tfl_api_Edit_From) E, stillS_cell (v := .int .i64 A) S.tcell_int (hcl.at 0 rfl) E,
      stillS_eq (fun w1 h1 K => sIdxA_sl (z := (i : Int)) S.tel_L_api_Edit S.tsz_api_Edit (by omega) ((hl.ext e3).ext h1) hx rfl) E, hel, stillS_eq (fun w1 h1 K => sFldA_ptr S.tfl_api_Edit_To) E, stillS_cell (v := .int .i64 B) S.tcell_int (hcl.at 1 rfl) E,
      stillS_eq (fun w1 h1 K => sBuild_of (cs := encP2 A B) (lp := [(0, [.int .i64 A]), (1, [.int .i64 B])]) S.tze_A2_int S.tpl_A2_int rfl rfl) E,
      stillS_eq (fun w1 h1 K => sIdxA_sl (z := (i : Int)) S.tel_L_api_Edit S.tsz_api_Edit (by omega) ((hl.ext e3).ext h1) hx rfl) E, hel, stillS_eq (fun w1 h1 K => sFldA_ptr S.tfl_api_Edit_Text) E, stillS_cell (v := tv x3) S.tcell_string (hcl.at 2 rfl) E]
    refine (ddecode_spec x3 (by omega)).mono ?_
    rintro q w4 ⟨e4, hq⟩
    have e34 := E.trans e4
    refine ⟨e34, ?_⟩
    have hnr : (runes x3).length = nr ((A : Int), (B : Int), x3) := rfl
    refine (dput_spec (A := A) (B := B) (ho.ext e34) (hq.sl encRn_ok) (by omega) (by rw [hnr]; omega) (by omega) hat).mono ?_
    rintro o' w5 ⟨e5, ho'⟩
    have e35 := e34.trans e5
    refine ⟨e35, ?_⟩
    rw [sBin_sub _ _ ⟨by omega, by omega⟩]
    refine ⟨⟨e3.trans e35, i, o', rfl, by omega, ?_⟩, by simp only []; omega⟩
    rw [drop_cons_of hx, app_cons]
    exact ho'.sl encRn_ok
  · obtain rfl : k = 0 := by omega
    rw [List.drop_zero] at ho
    rw [sLen_sl S.tel_L_int32 ho]
    have hal := app_len hv
    refine dmost_spec.mono ?_
    rintro u w4 ⟨rfl, rfl⟩
    rw [sBin_gtr, sIf_dec]
    refine ⟨fun h => ⟨e3, .inl ?_⟩, fun h => ⟨e3, .inr ⟨?_, o, rfl, ho⟩⟩⟩
    · have hw : wrg r.length es = 5 := by unfold wrg; rw [if_pos h0, if_pos (by omega)]
      rw [hw]
      exact ⟨by decide, rfl⟩
    · unfold wrg; rw [if_pos h0, if_neg (by omega)]
theorem dinvert9_spec {w : World} {v l : Value} {r : List Int} {es : List Ed} (hr : Sl w v 1 encRn r) (hn : r.length ≤ 20000) (hl : Sl w l 3 encE es) (hm : Fits es) (hv : Val r.length 0 es) (h64 : es.length ≤ 64) : sCall Tryd.prog S.bodkinref09_Invert.n [v, l] w fun u w' => Ext w w' ∧ Row w' w.heap.size S.T.api_Edit 3 u encE (inve r 0 es) := by
  refine S.bodkinref09_Invert.call ?_
  unfold S.bodkinref09_Invert
  have hmx : maxLen = 9223372036854775807 := rfl
  rw [sLen_sl S.tel_L_api_Edit hl]
  refine LoopS.intro (fun us w3 => Ext w w3 ∧ ∃ (i : Nat) (o : Value), us = [o, .int .i64 i] ∧ i ≤ es.length ∧ Row w3 w.heap.size S.T.api_Edit 3 o encE (inve r 0 (es.take i)))
    (fun us _ => match us with | [_, .int _ a] => (es.length - a).toNat | _ => 0) ⟨Ext.refl w, 0, _, rfl, Nat.zero_le _, Row.nil _ _ _ _ _⟩ ?_
  rintro us vs w3 ⟨e3, i, o, rfl, hi, ho⟩
  unfold S.bodkinref09_Invert_L1
  rw [Go.Lift.hd, Go.Lift.tl, Go.Lift.hd, sBin_lss, sIf_dec]
  refine ⟨fun hlt => ?_, fun hge => ?_⟩
  · obtain ⟨x, hx⟩ : ∃ x, es[i]? = some x := ⟨_, List.getElem?_eq_getElem (by omega)⟩
    obtain ⟨bb, of, hel, hcl⟩ := (hl.ext e3).el hx
    have hxm := List.mem_of_getElem? hx
    have hx1 := hv.mem x hxm
    have hx2 := hm x hxm
    have hx3 := hm.nr x hxm
    rw [sIdxA_sl S.tel_L_api_Edit S.tsz_api_Edit (by omega) (hl.ext e3) hx rfl, hel, sLoad_agg (cs := encE x) S.tagg_api_Edit hcl rfl]
    refine sVar (vs := encE x) S.tze_api_Edit S.tsz_api_Edit (by decide) rfl rfl (encE_one x) fun b7 w4 hb7 hs4 e4 hk7 => ?_
    have E4 := e3.trans e4
    have hl4 := hl.ext E4
    have hcap := sl_cap hl4
    have ho4 := ho.ext e4
    rw [sFldA_ptr S.tfl_api_Edit_From, sLoad_cell (v := .int .i64 x.1) S.tcell_int (hk7.cells.at 0 rfl), sSlice_h (hi := i) S.tel_L_api_Edit S.tsz_api_Edit (by omega) hl4 rfl (by omega)]
    have p1 : Sl w4 (slV l 3 0 i (capV l)) 3 encE (es.take i) := by
      simpa using hl4.part (lo := 0) (hi := i) (mx := capV l) (by omega) (by omega) (by omega) (Nat.le_refl _)
    have hti : (es.take i).length = i := by rw [List.length_take]; omega
    rw [sLen_sl S.tel_L_api_Edit p1, hti]
    refine LoopS.intro (fun us w5 => Ext w4 w5 ∧ ∃ j : Nat, us = [.int .i64 (x.1 + siz (es.take j)), .int .i64 j] ∧ j ≤ i)
      (fun us _ => match us with | [_, .int _ a] => (i - a).toNat | _ => 0) ⟨Ext.refl w4, 0, by rw [List.take_zero, siz_nil, Int.add_zero]; rfl, Nat.zero_le _⟩ ?_
    rintro us vs w5 ⟨e5, j, rfl, hj⟩
    unfold S.bodkinref09_Invert_L2
    have E5 := E4.trans e5
    have p5 := p1.ext e5
    have hb := siz_fit (n := r.length) (by omega) (by omega) (fun x hx => hv.mem x hx) hm j
    rw [Go.Lift.hd, Go.Lift.tl, Go.Lift.hd, sBin_lss, sIf_dec]
    refine ⟨fun hlt2 => ?_, fun hge2 => ?_⟩
    · obtain ⟨y, hy⟩ : ∃ y, (es.take i)[j]? = some y := ⟨_, List.getElem?_eq_getElem (by omega)⟩
      have hy2 : es[j]? = some y := by rw [List.getElem?_take, if_pos (by omega)] at hy; exact hy
      obtain ⟨bb2, of2, hel2, hcl2⟩ := p5.el hy
      have hym := List.mem_of_getElem? hy2
      have hy1 := hv.mem y hym
      have hyf := hm y hym
      have hyn := hm.nr y hym
      have hb1 := siz_fit (n := r.length) (by omega) (by omega) (fun x hx => hv.mem x hx) hm (j + 1)
      rw [siz_succ hy2] at hb1
      rw [sIdxA_sl S.tel_L_api_Edit S.tsz_api_Edit (by omega) p5 hy rfl, hel2, sLoad_agg (cs := encE y) S.tagg_api_Edit hcl2 rfl]
      refine sVar (vs := encE y) S.tze_api_Edit S.tsz_api_Edit (by decide) rfl rfl (encE_one y) fun b10 w6 hb10 hs6 e6 hk10 => ?_
      refine DrawS.ext ?_
      have E : Ext w6 w6.drew := (Ext.refl w6).drew
      rw [stillS_eq (fun w1 h1 K => sFldA_ptr S.tfl_api_Edit_Text) E, stillS_cell (v := tv y.2.2) S.tcell_string (hk10.cells.at 2 rfl) E, stillS_eq (fun w1 h1 K => sFldA_ptr S.tfl_api_Edit_To) E, stillS_cell (v := .int .i64 y.2.1) S.tcell_int (hk10.cells.at 1 rfl) E,
        stillS_eq (fun w1 h1 K => sFldA_ptr S.tfl_api_Edit_From) E, stillS_cell (v := .int .i64 y.1) S.tcell_int (hk10.cells.at 0 rfl) E, stillS_eq (fun w1 h1 K => sBin_sub _ _ ⟨by omega, by omega⟩) E]
      refine (ddecode_spec y.2.2 (by omega)).mono ?_
      rintro q w7 ⟨e7, hq⟩
      have e67 := E.trans e7
      refine ⟨e67, ?_⟩
      have hnr : ((runes y.2.2).length : Int) = nr y := rfl
      have hd : dlt y = nr y - (y.2.1 - y.1) := rfl
      rw [stillS_eq (fun w1 h1 K => sLen_any S.tel_L_int32 (hq.sl encRn_ok)) e67, hnr, stillS_eq (fun w1 h1 K => sBin_add _ _ ⟨by omega, by omega⟩) e67, stillS_eq (fun w1 h1 K => sBin_sub _ _ ⟨by omega, by omega⟩) e67, sBin_add _ _ ⟨by omega, by omega⟩]
      refine ⟨⟨(e5.trans e6).trans e67, j + 1, ?_, by omega⟩, by simp only []; omega⟩
      rw [siz_succ hy2, hd]
      have : x.1 + siz (es.take j) + nr y - (y.2.1 - y.1) = x.1 + (siz (es.take j) + (nr y - (y.2.1 - y.1))) := by omega
      rw [this]
      simp
    · obtain rfl : j = i := by omega
      have ho5 := ho4.ext e5
      have k75 := hk7.ext e5
      have l7 := hk7.lt
      have s3 := e3.size
      have hcr := sl_cap hr
      have hne : some b7 ≠ o.ownBlock := fun e => by
        have := (ho.lt b7 e.symm).2
        omega
      have hog : ∀ g, o.ownBlock = some g → w.heap.size ≤ g := fun g hg => (ho5.lt g hg).1
      have C0 := grown_drew w5 o.ownBlock
      obtain ⟨A, hA⟩ : ∃ A : Nat, x.1 = A := ⟨x.1.toNat, by omega⟩
      obtain ⟨B, hB⟩ : ∃ B : Nat, x.2.1 = B := ⟨x.2.1.toNat, by omega⟩
      have hin : invE r (0 + siz (es.take j)) x = (x.1 + siz (es.take j), x.1 + siz (es.take j) + nr x, txt ((r.drop A).take (B - A))) := by
        unfold invE
        rw [Int.zero_add, hA, hB, Int.toNat_natCast, Int.toNat_natCast]
      refine DrawS.intro (fun w' => w5.grownBy w' o.ownBlock) C0 ?_
      rw [stillC_eq (fun w1 h1 K => sFldA_ptr S.tfl_api_Edit_Text) C0, stillC_eq (fun w1 (h1 : w5.grownBy w1 _) K => sLoad_cell (v := tv x.2.2) S.tcell_string ((k75.wr h1 hne).cells.at 2 rfl)) C0,
        stillC_eq (fun w1 h1 K => sFldA_ptr S.tfl_api_Edit_From) C0, stillC_eq (fun w1 (h1 : w5.grownBy w1 _) K => sLoad_cell (v := .int .i64 x.1) S.tcell_int ((k75.wr h1 hne).cells.at 0 rfl)) C0,
        stillC_eq (fun w1 h1 K => sFldA_ptr S.tfl_api_Edit_To) C0, stillC_eq (fun w1 (h1 : w5.grownBy w1 _) K => sLoad_cell (v := .int .i64 x.2.1) S.tcell_int ((k75.wr h1 hne).cells.at 1 rfl)) C0,
        stillC_eq (fun w1 (h1 : w5.grownBy w1 _) K => sSlice_lh (lo := A) (hi := B) S.tel_L_int32 S.tsz_int32 (by omega) (hr.ext (E5.wr h1 hog)) hA hB (by omega) (by omega)) C0]
      refine (ddecode_spec x.2.2 (by omega)).mono ?_
      rintro q w6 ⟨e6, hq⟩
      have C6 : w5.grownBy w6 o.ownBlock := grown_trans C0 (grown_of_ext e6 _)
      refine ⟨C6, ?_⟩
      have hnr : ((runes x.2.2).length : Int) = nr x := rfl
      rw [stillC_eq (fun w1 h1 K => sLen_any S.tel_L_int32 (hq.sl encRn_ok)) C6, hnr, stillC_eq (fun w1 h1 K => sBin_add _ _ ⟨by omega, by omega⟩) C6]
      have e56 : Ext w5 w6 := ((Ext.refl w5).drew).trans e6
      have pr : Sl w6 (slV v 1 A B (capV v)) 1 encRn ((r.drop A).take (B - A)) := by
        have := (hr.ext (E5.trans e56)).part (lo := A) (hi := B) (mx := capV v) (by omega) (by omega) (by omega) (Nat.le_refl _)
        rwa [List.drop_take] at this
      refine (dencode_spec pr (by rw [List.length_take, List.length_drop]; omega)).mono ?_
      rintro u w7 ⟨e7, rfl⟩
      have C7 : w5.grownBy w7 o.ownBlock := grown_trans C6 (grown_of_ext e7 _)
      refine ⟨C7, ?_⟩
      rw [stillC_eq (fun w1 h1 K => sBuild_of (cs := encE (invE r (0 + siz (es.take j)) x)) (lp := [(0, [.int .i64 (x.1 + siz (es.take j))]), (1, [.int .i64 (x.1 + siz (es.take j) + nr x)]), (2, [tv (txt ((r.drop A).take (B - A)))])]) S.tze_api_Edit S.tpl_api_Edit rfl (by rw [hin]; rfl)) C7]
      refine sBuildSlice_own (n := 1) (enc := encE) (xs := [invE r (0 + siz (es.take j)) x]) (lp := [(0, encE (invE r (0 + siz (es.take j)) x))]) S.tel_L_api_Edit S.tsz_api_Edit rfl S.tze_api_Edit (by decide) (by decide) encE_ok rfl rfl fun t w8 ht ho8 e8 hs8 => ?_
      have C8 : w5.grownBy w8 o.ownBlock := grown_trans C7 (grown_of_ext e8 _)
      refine ⟨C8, ?_⟩
      have e58 := (e56.trans e7).trans e8
      have E8 := E5.trans e58
      refine sAppend_row S.tel_L_api_Edit S.tsz_api_Edit (by decide) S.tze_api_Edit rfl encE_ok (ho5.ext e58) E8.size (ho8.sl encE_ok) (by rw [inv_len, List.length_take]; simp; omega) (by rw [S.tby_api_Edit, inv_len, List.length_take]; simp; omega) fun o' w9 ho9 hg9 _ => ?_
      refine ⟨grown_trans C8 hg9, ?_⟩
      rw [sBin_add _ _ ⟨by omega, by omega⟩]
      refine ⟨⟨E8.wr hg9 hog, j + 1, o', by simp, by omega, ?_⟩, by simp only []; omega⟩
      rw [take_succ_of hx, inv_snoc]
      exact ho9
  · obtain rfl : i = es.length := by omega
    rw [List.take_length] at ho
    exact ⟨e3, ho⟩
end Go.Proofs.YtpjmmhbdondknaaDoor
