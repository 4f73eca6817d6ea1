/- Batches: checks, sizes, applied, inverted. Conditions: the table of sizes in memory; right pieces; texts that are not too long. -/
import Derived.Test.YtpjmmhbdondknaaDoorJ1
namespace Go.Proofs.YtpjmmhbdondknaaDoor
open Go Go.Lift Go.RowKit Go.Txt

theorem siz_succ {es : List Ed} {i : Nat} {x : Ed} (h : es[i]? = some x) : siz (es.take (i + 1)) = siz (es.take i) + dlt x := by rw [take_succ_of h, siz_snoc]
/-- Texts are not too long. -/
def Fits (es : List Ed) : Prop := ∀ x ∈ es, x.2.2.length ≤ 2000000
theorem Fits.nr {es : List Ed} (h : Fits es) : ∀ x ∈ es, nr x ≤ 2000000 := fun x hx => Nat.le_trans (runes_len _) (h x hx)
theorem siz_fit {n : Nat} {es : List Ed} (hn : n ≤ 1000000) (hl : es.length ≤ 200) (hv : ∀ x ∈ es, 0 ≤ x.1 ∧ x.1 ≤ x.2.1 ∧ x.2.1 ≤ n) (hm : Fits es) (i : Nat) : -400000000 ≤ siz (es.take i) ∧ siz (es.take i) ≤ 400000000 := by
  have h := siz_bd (n := n) (M := 2000000) (l := es.take i) (fun x hx => hv x (List.mem_of_mem_take hx)) (fun x hx => hm.nr x (List.mem_of_mem_take hx))
  have h1 : (es.take i).length ≤ 200 := by rw [List.length_take]; omega
  have h2 : n * (es.take i).length ≤ 1000000 * 200 := Nat.mul_le_mul hn h1
  omega
theorem ucount_spec {w : World} (l : List UInt8) (hn : l.length ≤ 10000000) : sCall Tryd.prog S.utf_Count.n [tv l] w fun u w' => Ext w w' ∧ u = .int .i64 (runes l).length := by
  refine S.utf_Count.call ?_
  unfold S.utf_Count
  refine sRange_str tstr fun b w1 hb hs1 e1 hi1 => ?_
  refine LoopS.ix (fun i us w2 => Ext w w2 ∧ ∃ (pos n : Nat), i = l.length - pos ∧ us = [.int .i64 n] ∧ pos ≤ l.length ∧ Iter w2 b l pos ∧ (runes l).length = n + (runes (l.drop pos)).length)
    ⟨l.length - 0, e1, 0, 0, rfl, rfl, by omega, hi1, by simp⟩ ?_
  rintro i us vs w2 ⟨E2, pos, n, rfl, rfl, hp, hit, hr⟩
  unfold S.utf_Count_L1
  have hrl := runes_len l
  rw [Go.Lift.hd]
  by_cases hlt : pos < l.length
  · refine sNext_str hit hlt fun w3 hs3 hg3 hit3 => ?_
    have hne : l.drop pos ≠ [] := fun h => by have := congrArg List.length h; rw [List.length_drop] at this; simp at this; omega
    have hw := dl_width _ hne
    rw [List.length_drop] at hw
    rw [sExtract_0, sIf_true, sBin_add _ _ ⟨by omega, by omega⟩]
    refine ⟨l.length - (pos + (dl (l.drop pos)).2), by omega, E2.wr hg3 (by rintro _ ⟨⟩; omega), pos + (dl (l.drop pos)).2, n + 1, rfl, by simp, by omega, hit3, ?_⟩
    rw [hr, runes_cons hne, List.drop_drop, List.length_cons]
    omega
  · obtain rfl : pos = l.length := by omega
    rw [sNext_end hit (by omega), sExtract_0, sIf_false]
    rw [List.drop_length, runes_nil, List.length_nil, Nat.add_zero] at hr
    rw [hr]
    exact ⟨E2, rfl⟩
theorem uclean_spec {w : World} (hM : Mo w) (l : List UInt8) (hn : l.length ≤ 10000000) : sCall Tryd.prog S.utf_Clean.n [tv l] w fun u w' => Ext w w' ∧ u = tv (txt (runes l)) := by
  refine S.utf_Clean.call ?_
  unfold S.utf_Clean
  have hr := runes_len l
  refine (udecode_spec l hn).mono ?_
  rintro q w1 ⟨e1, hq⟩
  refine (uencode_spec (hM.ext e1) (hq.sl encRn_ok) (by omega)).mono ?_
  rintro u w2 ⟨e2, rfl⟩
  exact ⟨e1.trans e2, rfl⟩
theorem bcheck_spec {w : World} {v : Value} {es : List Ed} (n : Int) (hl : Sl w v 3 encE es) : sCall Tryd.prog S.batch_Check.n [.int .i64 n, v] w fun u w' => Ext w w' ∧ u = .int .i64 (chk n es) := by
  refine S.batch_Check.call ?_
  unfold S.batch_Check
  rw [sLen_sl S.tel_L_api_Edit hl, sBin_gtr, sIf_dec]
  refine ⟨fun h => ⟨Ext.refl w, by unfold chk; rw [if_pos (by omega)]⟩, fun h64 => ?_⟩
  have hchk : chk n es = chkL n 0 es := by unfold chk; rw [if_neg (by omega)]
  rw [hchk, sLen_sl S.tel_L_api_Edit hl]
  refine LoopS.intro (fun us w1 => Ext w w1 ∧ ∃ (i : Nat) (last : Int), us = [.int .i64 last, .int .i64 i] ∧ i ≤ es.length ∧ chkL n 0 es = chkL n last (es.drop i))
    (fun us _ => match us with | [_, .int _ a] => (es.length - a).toNat | _ => 0) ⟨Ext.refl w, 0, 0, rfl, Nat.zero_le _, rfl⟩ ?_
  rintro us vs w1 ⟨e1, i, last, rfl, hi, hc⟩
  unfold S.batch_Check_L1
  rw [Go.Lift.hd, Go.Lift.tl, Go.Lift.hd, sBin_lss, sIf_dec]
  refine ⟨fun hlt => ?_, fun hge => ?_⟩
  · obtain ⟨x, hx⟩ : ∃ x, es[i]? = some x := ⟨_, List.getElem?_eq_getElem (by omega)⟩
    obtain ⟨b, of, hel, hcl⟩ := (hl.ext e1).el hx
    rw [drop_cons_of hx, chkL] at hc
    rw [sIdxA_sl S.tel_L_api_Edit S.tsz_api_Edit (by omega) (hl.ext e1) hx rfl, hel, sLoad_agg (cs := encE x) S.tagg_api_Edit hcl rfl]
    refine sVar (vs := encE x) S.tze_api_Edit S.tsz_api_Edit (by decide) rfl rfl (encE_one x) fun b7 w2 hb7 hs2 e2 hk7 => ?_
    have E2 := e1.trans e2
    refine JoinS.intro (fun us w' => w' = w2 ∧ ∃ q : Bool, us = [.bool q] ∧ (q = true ↔ ¬ (0 ≤ x.1 ∧ x.1 ≤ x.2.1 ∧ x.2.1 ≤ n))) ?_ ?_
    · rw [sFldA_ptr S.tfl_api_Edit_From, sLoad_cell (v := .int .i64 x.1) S.tcell_int (hk7.cells.at 0 rfl), sBin_lss, sIf_dec]
      refine ⟨fun h => ⟨rfl, true, rfl, by simp only [true_iff]; omega⟩, fun h1 => ?_⟩
      rw [sFldA_ptr S.tfl_api_Edit_To, sLoad_cell (v := .int .i64 x.2.1) S.tcell_int (hk7.cells.at 1 rfl), sFldA_ptr S.tfl_api_Edit_From, sLoad_cell (v := .int .i64 x.1) S.tcell_int (hk7.cells.at 0 rfl), sBin_lss, sIf_dec]
      refine ⟨fun h => ⟨rfl, true, rfl, by simp only [true_iff]; omega⟩, fun h2 => ?_⟩
      rw [sFldA_ptr S.tfl_api_Edit_To, sLoad_cell (v := .int .i64 x.2.1) S.tcell_int (hk7.cells.at 1 rfl), sBin_gtr]
      exact ⟨rfl, _, rfl, by rw [decide_eq_true_eq]; omega⟩
    · rintro us vs w2 ⟨rfl, q, rfl, hq⟩
      unfold S.batch_Check_J2
      rw [Go.Lift.hd, sIf_bool]
      refine ⟨fun hT => ⟨E2, by rw [hc, if_neg (hq.1 hT)]⟩, fun hF => ?_⟩
      have hin : 0 ≤ x.1 ∧ x.1 ≤ x.2.1 ∧ x.2.1 ≤ n := by
        rcases Decidable.em (0 ≤ x.1 ∧ x.1 ≤ x.2.1 ∧ x.2.1 ≤ n) with h | h
        · exact h
        · rw [hq.2 h] at hF; cases hF
      rw [if_pos hin] at hc
      rw [sFldA_ptr S.tfl_api_Edit_From, sLoad_cell (v := .int .i64 x.1) S.tcell_int (hk7.cells.at 0 rfl), sBin_lss, sIf_dec]
      refine ⟨fun h => ⟨E2, by rw [hc, if_pos h]⟩, fun h => ?_⟩
      rw [if_neg h] at hc
      rw [sFldA_ptr S.tfl_api_Edit_To, sLoad_cell (v := .int .i64 x.2.1) S.tcell_int (hk7.cells.at 1 rfl), sBin_add _ _ ⟨by omega, by omega⟩]
      exact ⟨⟨E2, i + 1, x.2.1, by simp, by omega, hc⟩, by simp only []; omega⟩
  · obtain rfl : i = es.length := by omega
    rw [List.drop_length] at hc
    exact ⟨e1, by rw [hc]; rfl⟩
theorem bsize_spec {w : World} {v : Value} {es : List Ed} {n : Nat} (hl : Sl w v 3 encE es) (hn : n ≤ 1000000) (h200 : es.length ≤ 200) (hv : ∀ x ∈ es, 0 ≤ x.1 ∧ x.1 ≤ x.2.1 ∧ x.2.1 ≤ n) (hm : Fits es) : sCall Tryd.prog S.batch_Size.n [v] w fun u w' => Ext w w' ∧ u = .int .i64 (siz es) := by
  refine S.batch_Size.call ?_
  unfold S.batch_Size
  rw [sLen_sl S.tel_L_api_Edit hl]
  refine LoopS.intro (fun us w1 => Ext w w1 ∧ ∃ i : Nat, us = [.int .i64 (siz (es.take i)), .int .i64 i] ∧ i ≤ es.length)
    (fun us _ => match us with | [_, .int _ a] => (es.length - a).toNat | _ => 0) ⟨Ext.refl w, 0, rfl, Nat.zero_le _⟩ ?_
  rintro us vs w1 ⟨e1, i, rfl, hi⟩
  unfold S.batch_Size_L1
  rw [Go.Lift.hd, Go.Lift.tl, Go.Lift.hd, sBin_lss, sIf_dec]
  refine ⟨fun hlt => ?_, fun hge => ?_⟩
  · obtain ⟨x, hx⟩ : ∃ x, es[i]? = some x := ⟨_, List.getElem?_eq_getElem (by omega)⟩
    obtain ⟨b, of, hel, hcl⟩ := (hl.ext e1).el hx
    have hxm := List.mem_of_getElem? hx
    have hb := siz_fit hn h200 hv hm i
    have hb1 := siz_fit hn h200 hv hm (i + 1)
    rw [siz_succ hx] at hb1
    have hx1 := hv x hxm
    have hx2 := hm x hxm
    have hx3 := hm.nr x hxm
    have hd : dlt x = nr x - (x.2.1 - x.1) := rfl
    rw [sIdxA_sl S.tel_L_api_Edit S.tsz_api_Edit (by omega) (hl.ext e1) hx rfl, hel, sLoad_agg (cs := encE x) S.tagg_api_Edit hcl rfl]
    refine sVar (vs := encE x) S.tze_api_Edit S.tsz_api_Edit (by decide) rfl rfl (encE_one x) fun b5 w2 hb5 hs2 e2 hk5 => ?_
    have E2 := e1.trans e2
    refine DrawS.ext ?_
    have E : Ext w2 w2.drew := (Ext.refl w2).drew
    rw [stillS_eq (fun w1 h1 K => sFldA_ptr S.tfl_api_Edit_Text) E, stillS_cell (v := tv x.2.2) S.tcell_string (hk5.cells.at 2 rfl) E, stillS_eq (fun w1 h1 K => sFldA_ptr S.tfl_api_Edit_To) E, stillS_cell (v := .int .i64 x.2.1) S.tcell_int (hk5.cells.at 1 rfl) E,
      stillS_eq (fun w1 h1 K => sFldA_ptr S.tfl_api_Edit_From) E, stillS_cell (v := .int .i64 x.1) S.tcell_int (hk5.cells.at 0 rfl) E, stillS_eq (fun w1 h1 K => sBin_sub _ _ ⟨by omega, by omega⟩) E]
    refine (ucount_spec x.2.2 (by omega)).mono ?_
    rintro u w3 ⟨e3, rfl⟩
    have e23 := E.trans e3
    refine ⟨e23, ?_⟩
    have hnr : ((runes x.2.2).length : Int) = nr x := rfl
    rw [hnr, stillS_eq (fun w1 h1 K => sBin_sub _ _ ⟨by omega, by omega⟩) e23, ← hd, stillS_eq (fun w1 h1 K => sBin_add _ _ ⟨by omega, by omega⟩) e23, sBin_add _ _ ⟨by omega, by omega⟩]
    exact ⟨⟨E2.trans e23, i + 1, by rw [siz_succ hx]; simp, by omega⟩, by simp only []; omega⟩
  · obtain rfl : i = es.length := by omega
    rw [List.take_length]
    exact ⟨e1, rfl⟩
theorem bwrong_spec {w : World} {v l : Value} {ps : List (List Int)} {es : List Ed} (h : Rp w v ps) (hp : RpOk ps) (hl : Sl w l 3 encE es) (hm : Fits es) : sCall Tryd.prog S.batch_wrong.n [v, l] w fun u w' => Ext w w' ∧ u = .int .i64 (wrg ps.flatten.length es) := by
  refine S.batch_wrong.call ?_
  unfold S.batch_wrong
  have hle := hp.le
  refine (rrunes_spec h hp).mono ?_
  rintro u w1 ⟨e1, rfl⟩
  refine (bcheck_spec _ (hl.ext e1)).mono ?_
  rintro u w2 ⟨e2, rfl⟩
  have E2 := e1.trans e2
  rw [sBin_neq, sIf_not]
  refine ⟨fun hne => ⟨E2, by unfold wrg; rw [if_neg hne]⟩, fun h0 => ?_⟩
  obtain ⟨h64, hv⟩ := chk_zero.1 h0
  have hb := siz_fit (n := ps.flatten.length) (by omega) (by omega) (fun x hx => hv.mem x hx) hm es.length
  rw [List.take_length] at hb
  refine (rrunes_spec (h.ext E2) hp).mono ?_
  rintro u w3 ⟨e3, rfl⟩
  refine (bsize_spec (n := ps.flatten.length) ((hl.ext E2).ext e3) (by omega) (by omega) (fun x hx => hv.mem x hx) hm).mono ?_
  rintro u w4 ⟨e4, rfl⟩
  have E4 := (E2.trans e3).trans e4
  rw [sBin_add _ _ ⟨by omega, by omega⟩, sBin_gtr, sIf_dec]
  refine ⟨fun h5 => ⟨E4, by unfold wrg; rw [if_pos h0, if_pos h5]⟩, fun h5 => ⟨E4, by unfold wrg; rw [if_pos h0, if_neg h5]⟩⟩
theorem bcut_spec {w : World} {b A B : Nat} {v : Value} {ps : List (List Int)} (hk : Cells w b 0 [v]) (h : Rp w v ps) (hp : RpOk ps) (hab : A ≤ B) (hB : B ≤ ps.flatten.length) :
    sDyn Tryd.prog (.func (.func S.batch_Apply_1.n) #[] #[.pointer (some ⟨b, 0, none⟩)]) [.int .i64 A, .int .i64 B] w fun u w' => Ext w w' ∧ u = tv (txt ((ps.flatten.drop A).take (B - A))) := by
  rw [sDyn_func]
  refine S.batch_Apply_1.call ?_
  unfold S.batch_Apply_1
  obtain ⟨a, rfl⟩ : ∃ a, v = .pointer a := by rcases h with ⟨rfl, _⟩ | ⟨b, t, rfl, _⟩ <;> exact ⟨_, rfl⟩
  rw [sLoad_cell S.tcell_P_rope_Rope (hk.fst rfl)]
  refine (rslice_spec (a := A) (b := B) h hp).mono ?_
  rintro u w1 ⟨e1, hu⟩
  rcases hu with ⟨hn, _⟩ | ⟨_, rfl⟩
  · exact absurd ⟨by omega, by omega, by omega⟩ hn
  · rw [sExtract_0, sExtract_1]
    exact ⟨e1, rfl⟩
theorem bapply_spec {w : World} {v l : Value} {ps : List (List Int)} {es : List Ed} (hM : Mo w) (h : Rp w v ps) (hp : RpOk ps) (hl : Sl w l 3 encE es) (hm : Fits es) : sCall Tryd.prog S.batch_Apply.n [v, l] w fun u w' => Ext w w' ∧
    ((wrg ps.flatten.length es ≠ 0 ∧ u = .tuple #[.pointer none, .int .i64 (wrg ps.flatten.length es)]) ∨
     (wrg ps.flatten.length es = 0 ∧ ∃ (bv : Nat) (ps' : List (List Int)), u = .tuple #[.pointer (some ⟨bv, 0, none⟩), .int .i64 0] ∧ Rp w' (.pointer (some ⟨bv, 0, none⟩)) ps' ∧ RpOk ps' ∧ ps'.flatten = app ps.flatten es)) := by
  refine S.batch_Apply.call ?_
  unfold S.batch_Apply
  have hle := hp.le
  obtain ⟨a, rfl⟩ : ∃ a, v = .pointer a := by rcases h with ⟨rfl, _⟩ | ⟨b, t, rfl, _⟩ <;> exact ⟨_, rfl⟩
  refine sBox_new (cs := [.pointer a]) rfl fun b2 w1 hb2 hs1 e1 hk2 => ?_
  rw [sLoad_cell S.tcell_P_rope_Rope (hk2.cells.fst rfl)]
  refine (bwrong_spec (h.ext e1) hp (hl.ext e1) hm).mono ?_
  rintro u w2 ⟨e2, rfl⟩
  have E2 := e1.trans e2
  have k2 := hk2.ext e2
  rw [sBin_neq, sIf_not]
  refine ⟨fun hne => ⟨E2, .inl ⟨hne, rfl⟩⟩, fun h0 => ?_⟩
  obtain ⟨⟨h64, hv⟩, hfull⟩ := wrg_zero.1 h0
  have hal := app_len hv
  rw [sLen_sl S.tel_L_api_Edit (hl.ext E2), sBin_eql, sIf_dec]
  refine ⟨fun hz => ?_, fun hnz => ?_⟩
  · have hes : es = [] := List.eq_nil_of_length_eq_zero (by omega)
    subst hes
    rw [sLoad_cell S.tcell_P_rope_Rope (k2.cells.fst rfl)]
    refine (rreplace_spec' (a := 0) (b := 0) (s := []) (hM.ext E2) (h.ext E2) hp (by simp)).mono ?_
    rintro u w3 ⟨e3, hu⟩
    rw [runes_nil] at hu
    rcases hu with ⟨hn, _⟩ | ⟨_, h20, _⟩ | ⟨_, h20, bv, ps', rfl, hr', hok', hfl', hbg'⟩
    · exact absurd ⟨by omega, by omega, by omega⟩ hn
    · simp only [List.length_nil] at h20; omega
    · rw [sExtract_0, sExtract_1]
      refine ⟨E2.trans e3, .inr ⟨h0, bv, ps', rfl, hr', hok', ?_⟩⟩
      rw [hfl']
      simp [app]
  · obtain ⟨x0, es', rfl⟩ : ∃ x0 es', es = x0 :: es' := by cases es with
      | nil => simp at hnz
      | cons x r => exact ⟨x, r, rfl⟩
    have hv0 := hv.1
    have hv' : Val ps.flatten.length (x0.1.toNat : Nat) (x0 :: es') := ⟨hv.1, by omega, hv.2.2⟩
    have hf0 : (x0.1.toNat : Int) = x0.1 := by omega
    obtain ⟨bb, of, hel, hcl⟩ := (hl.ext E2).el (i := 0) (x := x0) rfl
    rw [sFunc_mk, sIdxA_sl (i := 0) (z := 0) S.tel_L_api_Edit S.tsz_api_Edit (by omega) (hl.ext E2) (x := x0) rfl rfl, hel, sFldA_ptr S.tfl_api_Edit_From, sLoad_cell (v := .int .i64 x0.1) S.tcell_int (hcl.at 0 rfl), sLen_sl S.tel_L_api_Edit (hl.ext E2)]
    generalize hes : x0 :: es' = es at *
    generalize hfz : x0.1.toNat = f0 at *
    have hlast : ∀ i, f0 ≤ lastTo f0 (es.take i) ∧ lastTo f0 (es.take i) ≤ ps.flatten.length := fun i => Val.last (hv'.take i) (by omega)
    have hmidl : ∀ i, ((mid ps.flatten f0 (es.take i)).length : Int) ≤ 400020000 := fun i => by
      have q1 := congrArg List.length (pc_mid ps.flatten (es.take i) f0)
      rw [List.length_append] at q1
      have q2 := pc_len (hv'.take i) (show f0 ≤ ps.flatten.length by omega)
      have q3 := siz_fit (n := ps.flatten.length) (by omega) (by omega) (fun x hx => hv.mem x hx) hm i
      omega
    refine LoopS.intro (fun us w3 => Ext w2 w3 ∧ ∃ i : Nat, us = [tv (txt (mid ps.flatten f0 (es.take i))), .int .i64 (lastTo f0 (es.take i)), .int .i64 i] ∧ i ≤ es.length)
      (fun us _ => match us with | [_, _, .int _ a] => (es.length - a).toNat | _ => 0) ⟨Ext.refl w2, 0, by rw [List.take_zero, mid, lastTo, txt_nil, hf0]; rfl, Nat.zero_le _⟩ ?_
    rintro us vs w3 ⟨e3, i, rfl, hi⟩
    unfold S.batch_Apply_L1
    have E3 := E2.trans e3
    have k3 := k2.ext e3
    have hli := hlast i
    rw [Go.Lift.hd, Go.Lift.tl, Go.Lift.hd, Go.Lift.tl, Go.Lift.hd, sBin_lss, sIf_dec]
    refine ⟨fun hlt => ?_, fun hge => ?_⟩
    · obtain ⟨x, hx⟩ : ∃ x, es[i]? = some x := ⟨_, List.getElem?_eq_getElem (by omega)⟩
      obtain ⟨bb, of, hel, hcl⟩ := (hl.ext E3).el hx
      have hxm := List.mem_of_getElem? hx
      have hx1 := hv.mem x hxm
      have hx2 := hm x hxm
      have hx3 := hm.nr x hxm
      have hat := hv'.at (by omega) hx
      obtain ⟨f, hf⟩ : ∃ f : Nat, x.1 = f := ⟨x.1.toNat, by omega⟩
      rw [sIdxA_sl S.tel_L_api_Edit S.tsz_api_Edit (by omega) (hl.ext E3) hx rfl, hel, sLoad_agg (cs := encE x) S.tagg_api_Edit hcl rfl]
      refine sVar (vs := encE x) S.tze_api_Edit S.tsz_api_Edit (by decide) rfl rfl (encE_one x) fun b12 w4 hb12 hs4 e4 hk12 => ?_
      have E4 := E3.trans e4
      refine DrawS.ext ?_
      have E : Ext w4 w4.drew := (Ext.refl w4).drew
      rw [stillS_eq (fun w1 h1 K => sFldA_ptr S.tfl_api_Edit_From) E, stillS_cell (v := .int .i64 x.1) S.tcell_int (hk12.cells.at 0 rfl) E, stillS_eq (fun w1 h1 K => sFldA_ptr S.tfl_api_Edit_Text) E, stillS_cell (v := tv x.2.2) S.tcell_string (hk12.cells.at 2 rfl) E, hf]
      refine sDyn_mono ?_ (bcut_spec (A := lastTo f0 (es.take i)) (B := f) ((k3.ext e4).ext E).cells (h.ext (E4.trans E)) hp (by omega) (by omega))
      rintro u w5 ⟨e5, rfl⟩
      have e45 := E.trans e5
      refine ⟨e45, ?_⟩
      refine (uclean_spec (hM.ext (E4.trans e45)) x.2.2 (by omega)).mono ?_
      rintro u w6 ⟨e6, rfl⟩
      have e46 := e45.trans e6
      refine ⟨e46, ?_⟩
      have t1 := txt_len ((ps.flatten.drop (lastTo f0 (es.take i))).take (f - lastTo f0 (es.take i)))
      have t1' : ((ps.flatten.drop (lastTo f0 (es.take i))).take (f - lastTo f0 (es.take i))).length ≤ ps.flatten.length := by rw [List.length_take, List.length_drop]; omega
      have t2 := txt_len (runes x.2.2)
      have t2' : (runes x.2.2).length ≤ 2000000 := hx3
      have t3 := txt_len (mid ps.flatten f0 (es.take i))
      have t3' := hmidl i
      rw [stillS_eq (fun w1 h1 K => sBin_strAdd (by omega)) e46, stillS_eq (fun w1 h1 K => sBin_strAdd (by rw [List.length_append]; omega)) e46, sFldA_ptr S.tfl_api_Edit_To, sLoad_cell (v := .int .i64 x.2.1) S.tcell_int ((hk12.ext e46).cells.at 1 rfl), sBin_add _ _ ⟨by omega, by omega⟩]
      refine ⟨⟨(e3.trans e4).trans e46, i + 1, ?_, by omega⟩, by simp only []; omega⟩
      rw [take_succ_of hx, mid_snoc, last_snoc, txt_append, txt_append, hf, Int.toNat_natCast]
      have hto : (x.2.1.toNat : Int) = x.2.1 := by omega
      rw [hto]
      simp
    · obtain rfl : i = es.length := by omega
      rw [List.take_length] at hli ⊢
      rw [sLoad_cell S.tcell_P_rope_Rope (k3.cells.fst rfl)]
      have hpr : ∀ c ∈ ps.flatten, okR c := hp.runes
      have hmo := mid_ok hpr es f0
      have hrm : runes (txt (mid ps.flatten f0 es)) = mid ps.flatten f0 es := runes_of hmo
      have honce : app ps.flatten es = ps.flatten.take f0 ++ mid ps.flatten f0 es ++ ps.flatten.drop (lastTo f0 es) := by
        subst hes hfz
        exact app_once hv
      have hol := congrArg List.length honce
      rw [List.length_append, List.length_append, List.length_take, List.length_drop] at hol
      have htl := txt_len (mid ps.flatten f0 es)
      have hx01 : x0.1 = (f0 : Nat) := by omega
      rw [hx01]
      refine (rreplace_spec' (a := f0) (b := lastTo f0 es) (s := txt (mid ps.flatten f0 es)) (hM.ext E3) (h.ext E3) hp (by omega)).mono ?_
      rintro u w4 ⟨e4, hu⟩
      rw [hrm] at hu
      rcases hu with ⟨hn, _⟩ | ⟨_, h20, _⟩ | ⟨_, h20, bv, ps', rfl, hr', hok', hfl', hbg'⟩
      · exact absurd ⟨by omega, by omega, by omega⟩ hn
      · omega
      · rw [sExtract_0, sExtract_1]
        refine ⟨E3.trans e4, .inr ⟨h0, bv, ps', rfl, hr', hok', ?_⟩⟩
        rw [hfl', honce, Int.toNat_natCast, Int.toNat_natCast]
theorem binvert_spec {w : World} {v l : Value} {ps : List (List Int)} {es : List Ed} (h : Rp w v ps) (hp : RpOk ps) (hl : Sl w l 3 encE es) (hm : Fits es) : sCall Tryd.prog S.batch_Invert.n [v, l] w fun u w' => Ext w w' ∧
    ((wrg ps.flatten.length es ≠ 0 ∧ u = .tuple #[.slice none 0 0, .int .i64 (wrg ps.flatten.length es)]) ∨
     (wrg ps.flatten.length es = 0 ∧ ∃ m : Value, u = .tuple #[m, .int .i64 0] ∧ Row w' w.heap.size S.T.api_Edit 3 m encE (inve ps.flatten 0 es))) := by
  refine S.batch_Invert.call ?_
  unfold S.batch_Invert
  have hle := hp.le
  have hmx : maxLen = 9223372036854775807 := rfl
  refine (bwrong_spec h hp hl hm).mono ?_
  rintro u w2 ⟨e2, rfl⟩
  rw [sBin_neq, sIf_not]
  refine ⟨fun hne => ⟨e2, .inl ⟨hne, rfl⟩⟩, fun h0 => ?_⟩
  obtain ⟨⟨h64, hv⟩, hfull⟩ := wrg_zero.1 h0
  rw [sLen_sl S.tel_L_api_Edit (hl.ext e2)]
  refine LoopS.intro (fun us w3 => Ext w w3 ∧ ∃ (i : Nat) (o : Value), us = [o, .int .i64 (siz (es.take i)), .int .i64 i] ∧ i ≤ es.length ∧ Row w3 w.heap.size S.T.api_Edit 3 o encE (inve ps.flatten 0 (es.take i)))
    (fun us _ => match us with | [_, _, .int _ a] => (es.length - a).toNat | _ => 0) ⟨e2, 0, _, rfl, Nat.zero_le _, Row.nil _ _ _ _ _⟩ ?_
  rintro us vs w3 ⟨e3, i, o, rfl, hi, ho⟩
  unfold S.batch_Invert_L1
  rw [Go.Lift.hd, Go.Lift.tl, Go.Lift.hd, Go.Lift.tl, Go.Lift.hd, sBin_lss, sIf_dec]
  refine ⟨fun hlt => ?_, fun hge => ?_⟩
  · obtain ⟨x, hx⟩ : ∃ x, es[i]? = some x := ⟨_, List.getElem?_eq_getElem (by omega)⟩
    obtain ⟨bb, of, hel, hcl⟩ := (hl.ext e3).el hx
    have hxm := List.mem_of_getElem? hx
    have hx1 := hv.mem x hxm
    have hx2 := hm x hxm
    have hx3 := hm.nr x hxm
    have hb := siz_fit (n := ps.flatten.length) (by omega) (by omega) (fun x hx => hv.mem x hx) hm i
    rw [sIdxA_sl S.tel_L_api_Edit S.tsz_api_Edit (by omega) (hl.ext e3) hx rfl, hel, sLoad_agg (cs := encE x) S.tagg_api_Edit hcl rfl]
    refine sVar (vs := encE x) S.tze_api_Edit S.tsz_api_Edit (by decide) rfl rfl (encE_one x) fun b10 w4 hb10 hs4 e4 hk10 => ?_
    have E4 := e3.trans e4
    rw [sFldA_ptr S.tfl_api_Edit_From, sLoad_cell (v := .int .i64 x.1) S.tcell_int (hk10.cells.at 0 rfl), sFldA_ptr S.tfl_api_Edit_To, sLoad_cell (v := .int .i64 x.2.1) S.tcell_int (hk10.cells.at 1 rfl)]
    refine (rslice_spec (a := x.1) (b := x.2.1) (h.ext E4) hp).mono ?_
    rintro u w5 ⟨e5, hu⟩
    rcases hu with ⟨hn, _⟩ | ⟨_, rfl⟩
    · exact absurd ⟨by omega, by omega, by omega⟩ hn
    rw [sExtract_0, sExtract_1, sFldA_ptr S.tfl_api_Edit_Text, sLoad_cell (v := tv x.2.2) S.tcell_string ((hk10.ext e5).cells.at 2 rfl)]
    refine (ucount_spec x.2.2 (by omega)).mono ?_
    rintro u w6 ⟨e6, rfl⟩
    have e46 := e5.trans e6
    have E6 := E4.trans e46
    have k6 := hk10.ext e46
    have hnr : ((runes x.2.2).length : Int) = nr x := rfl
    have hd : dlt x = nr x - (x.2.1 - x.1) := rfl
    rw [hnr, sFldA_ptr S.tfl_api_Edit_From, sLoad_cell (v := .int .i64 x.1) S.tcell_int (k6.cells.at 0 rfl), sBin_add _ _ ⟨by omega, by omega⟩, sFldA_ptr S.tfl_api_Edit_From, sLoad_cell (v := .int .i64 x.1) S.tcell_int (k6.cells.at 0 rfl), sBin_add _ _ ⟨by omega, by omega⟩, sBin_add _ _ ⟨by omega, by omega⟩,
      sBuild_of (cs := encE (invE ps.flatten (siz (es.take i)) x)) (lp := [(0, [.int .i64 (x.1 + siz (es.take i))]), (1, [.int .i64 (x.1 + siz (es.take i) + nr x)]), (2, [tv (txt ((ps.flatten.drop x.1.toNat).take (x.2.1.toNat - x.1.toNat)))])]) S.tze_api_Edit S.tpl_api_Edit rfl rfl]
    refine sBuildSlice_own (n := 1) (enc := encE) (xs := [invE ps.flatten (siz (es.take i)) x]) (lp := [(0, encE (invE ps.flatten (siz (es.take i)) x))]) S.tel_L_api_Edit S.tsz_api_Edit rfl S.tze_api_Edit (by decide) (by decide) encE_ok rfl rfl fun t w7 ht ho7 e7 hs7 => ?_
    have e37 := (e4.trans e46).trans e7
    have E7 := E6.trans e7
    refine sAppend_row S.tel_L_api_Edit S.tsz_api_Edit (by decide) S.tze_api_Edit rfl encE_ok (ho.ext e37) E7.size (ho7.sl encE_ok) (by rw [inv_len, List.length_take]; simp; omega) (by rw [S.tby_api_Edit, inv_len, List.length_take]; simp; omega) fun o' w8 ho8 hg8 _ => ?_
    have E8 := E7.wr hg8 fun g hg => ((ho.ext e37).lt g hg).1
    have k8 : Blk w8 b10 (encE x) := (k6.ext e7).wr hg8 (by
      intro e
      have := (ho.lt b10 e.symm).2
      omega)
    rw [sFldA_ptr S.tfl_api_Edit_To, sLoad_cell (v := .int .i64 x.2.1) S.tcell_int (k8.cells.at 1 rfl), sFldA_ptr S.tfl_api_Edit_From, sLoad_cell (v := .int .i64 x.1) S.tcell_int (k8.cells.at 0 rfl), sBin_sub _ _ ⟨by omega, by omega⟩, sBin_sub _ _ ⟨by omega, by omega⟩, ← hd]
    have hb1 := siz_fit (n := ps.flatten.length) (by omega) (by omega) (fun x hx => hv.mem x hx) hm (i + 1)
    rw [siz_succ hx] at hb1
    rw [sBin_add _ _ ⟨by omega, by omega⟩, sBin_add _ _ ⟨by omega, by omega⟩]
    refine ⟨⟨E8, i + 1, o', by rw [siz_succ hx]; simp, by omega, ?_⟩, by simp only []; omega⟩
    rw [take_succ_of hx, inv_snoc, Int.zero_add]
    exact ho8
  · obtain rfl : i = es.length := by omega
    rw [List.take_length] at ho
    exact ⟨e3, .inr ⟨h0, o, rfl, ho⟩⟩
end Go.Proofs.YtpjmmhbdondknaaDoor
