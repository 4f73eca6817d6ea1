/- Batches whose texts are as long as any process can hold: what is wrong, applied, inverted. Conditions: right pieces. -/
import Derived.Test.YtpjmmhbdondknaaDoorH5
namespace Go.Proofs.YtpjmmhbdondknaaDoor
open Go Go.Lift Go.RowKit Go.Txt

/-- Each text is one that a process can hold. -/
def FitB (es : List Ed) : Prop := ∀ x ∈ es, x.2.2.length ≤ 140737488355328
theorem ucount_big {w : World} (l : List UInt8) (hn : l.length ≤ 140737488355328) : sCall Tryd.prog S.utf_Count.n [tv l] w fun u w' => Ext w w' ∧ u = .int .i64 (runes l).length := by
  refine S.utf_Count.call ?_
  unfold S.utf_Count
  refine sRange_str tstr fun b w1 hb hs1 e1 hi1 => ?_
  refine LoopS.ix (fun i us w2 => Ext w w2 ∧ ∃ (pos n : Nat), i = l.length - pos ∧ us = [.int .i64 n] ∧ pos ≤ l.length ∧ Iter w2 b l pos ∧ (runes l).length = n + (runes (l.drop pos)).length)
    ⟨l.length - 0, e1, 0, 0, rfl, rfl, by omega, hi1, by simp⟩ ?_
  rintro i us vs w2 ⟨E2, pos, n, rfl, rfl, hp, hit, hr⟩
  unfold S.utf_Count_L1
  have hrl := runes_len l
  rw [Go.Lift.hd]
  by_cases hlt : pos < l.length
  · refine sNext_str hit hlt fun w3 hs3 hg3 hit3 => ?_
    have hne : l.drop pos ≠ [] := fun h => by have := congrArg List.length h; rw [List.length_drop] at this; simp at this; omega
    have hw := dl_width _ hne
    rw [List.length_drop] at hw
    rw [sExtract_0, sIf_true, sBin_add _ _ ⟨by omega, by omega⟩]
    refine ⟨l.length - (pos + (dl (l.drop pos)).2), by omega, E2.wr hg3 (by rintro _ ⟨⟩; omega), pos + (dl (l.drop pos)).2, n + 1, rfl, by simp, by omega, hit3, ?_⟩
    rw [hr, runes_cons hne, List.drop_drop, List.length_cons]
    omega
  · obtain rfl : pos = l.length := by omega
    rw [sNext_end hit (by omega), sExtract_0, sIf_false]
    rw [List.drop_length, runes_nil, List.length_nil, Nat.add_zero] at hr
    rw [hr]
    exact ⟨E2, rfl⟩
theorem siz_big {n : Nat} {es : List Ed} (hn : n ≤ 1000000) (hl : es.length ≤ 200) (hv : ∀ x ∈ es, 0 ≤ x.1 ∧ x.1 ≤ x.2.1 ∧ x.2.1 ≤ n) (hm : FitB es) (i : Nat) : -400000000000000000 ≤ siz (es.take i) ∧ siz (es.take i) ≤ 400000000000000000 := by
  have h := siz_bd (n := n) (M := 140737488355328) (l := es.take i) (fun x hx => hv x (List.mem_of_mem_take hx)) (fun x hx => Nat.le_trans (runes_len _) (hm x (List.mem_of_mem_take hx)))
  have hlt : (es.take i).length ≤ 200 := by rw [List.length_take]; omega
  have h1 : n * (es.take i).length ≤ 1000000 * 200 := Nat.mul_le_mul hn hlt
  have h2 : 140737488355328 * (es.take i).length ≤ 140737488355328 * 200 := Nat.mul_le_mul (Nat.le_refl _) hlt
  omega
theorem bsize_big {w : World} {v : Value} {es : List Ed} {n : Nat} (hl : Sl w v 3 encE es) (hn : n ≤ 1000000) (h200 : es.length ≤ 200) (hv : ∀ x ∈ es, 0 ≤ x.1 ∧ x.1 ≤ x.2.1 ∧ x.2.1 ≤ n) (hm : FitB es) : sCall Tryd.prog S.batch_Size.n [v] w fun u w' => Ext w w' ∧ u = .int .i64 (siz es) := by
  refine S.batch_Size.call ?_
  unfold S.batch_Size
  rw [sLen_sl S.tel_L_api_Edit hl]
  refine LoopS.intro (fun us w1 => Ext w w1 ∧ ∃ i : Nat, us = [.int .i64 (siz (es.take i)), .int .i64 i] ∧ i ≤ es.length)
    (fun us _ => match us with | [_, .int _ a] => (es.length - a).toNat | _ => 0) ⟨Ext.refl w, 0, rfl, Nat.zero_le _⟩ ?_
  rintro us vs w1 ⟨e1, i, rfl, hi⟩
  unfold S.batch_Size_L1
  rw [Go.Lift.hd, Go.Lift.tl, Go.Lift.hd, sBin_lss, sIf_dec]
  refine ⟨fun hlt => ?_, fun hge => ?_⟩
  · obtain ⟨x, hx⟩ : ∃ x, es[i]? = some x := ⟨_, List.getElem?_eq_getElem (by omega)⟩
    obtain ⟨b, of, hel, hcl⟩ := (hl.ext e1).el hx
    have hxm := List.mem_of_getElem? hx
    have hb := siz_big hn h200 hv hm i
    have hb1 := siz_big hn h200 hv hm (i + 1)
    rw [siz_succ hx] at hb1
    have hx1 := hv x hxm
    have hx2 := hm x hxm
    have hx3 : nr x ≤ 140737488355328 := Nat.le_trans (runes_len _) hx2
    have hd : dlt x = nr x - (x.2.1 - x.1) := rfl
    rw [sIdxA_sl S.tel_L_api_Edit S.tsz_api_Edit (by omega) (hl.ext e1) hx rfl, hel, sLoad_agg (cs := encE x) S.tagg_api_Edit hcl rfl]
    refine sVar (vs := encE x) S.tze_api_Edit S.tsz_api_Edit (by decide) rfl rfl (encE_one x) fun b5 w2 hb5 hs2 e2 hk5 => ?_
    have E2 := e1.trans e2
    refine DrawS.ext ?_
    have E : Ext w2 w2.drew := (Ext.refl w2).drew
    rw [stillS_eq (fun w1 h1 K => sFldA_ptr S.tfl_api_Edit_Text) E, stillS_cell (v := tv x.2.2) S.tcell_string (hk5.cells.at 2 rfl) E, stillS_eq (fun w1 h1 K => sFldA_ptr S.tfl_api_Edit_To) E, stillS_cell (v := .int .i64 x.2.1) S.tcell_int (hk5.cells.at 1 rfl) E,
      stillS_eq (fun w1 h1 K => sFldA_ptr S.tfl_api_Edit_From) E, stillS_cell (v := .int .i64 x.1) S.tcell_int (hk5.cells.at 0 rfl) E, stillS_eq (fun w1 h1 K => sBin_sub _ _ ⟨by omega, by omega⟩) E]
    refine (ucount_big x.2.2 (by omega)).mono ?_
    rintro u w3 ⟨e3, rfl⟩
    have e23 := E.trans e3
    refine ⟨e23, ?_⟩
    have hnr : ((runes x.2.2).length : Int) = nr x := rfl
    rw [hnr, stillS_eq (fun w1 h1 K => sBin_sub _ _ ⟨by omega, by omega⟩) e23, ← hd, stillS_eq (fun w1 h1 K => sBin_add _ _ ⟨by omega, by omega⟩) e23, sBin_add _ _ ⟨by omega, by omega⟩]
    exact ⟨⟨E2.trans e23, i + 1, by rw [siz_succ hx]; simp, by omega⟩, by simp only []; omega⟩
  · obtain rfl : i = es.length := by omega
    rw [List.take_length]
    exact ⟨e1, rfl⟩
theorem bwrong_big {w : World} {v l : Value} {ps : List (List Int)} {es : List Ed} (h : Rp w v ps) (hp : RpOk ps) (hl : Sl w l 3 encE es) (hm : FitB es) : sCall Tryd.prog S.batch_wrong.n [v, l] w fun u w' => Ext w w' ∧ u = .int .i64 (wrg ps.flatten.length es) := by
  refine S.batch_wrong.call ?_
  unfold S.batch_wrong
  have hle := hp.le
  refine (rrunes_spec h hp).mono ?_
  rintro u w1 ⟨e1, rfl⟩
  refine (bcheck_spec _ (hl.ext e1)).mono ?_
  rintro u w2 ⟨e2, rfl⟩
  have E2 := e1.trans e2
  rw [sBin_neq, sIf_not]
  refine ⟨fun hne => ⟨E2, by unfold wrg; rw [if_neg hne]⟩, fun h0 => ?_⟩
  obtain ⟨h64, hv⟩ := chk_zero.1 h0
  have hb := siz_big (n := ps.flatten.length) (by omega) (by omega) (fun x hx => hv.mem x hx) hm es.length
  rw [List.take_length] at hb
  refine (rrunes_spec (h.ext E2) hp).mono ?_
  rintro u w3 ⟨e3, rfl⟩
  refine (bsize_big (n := ps.flatten.length) ((hl.ext E2).ext e3) (by omega) (by omega) (fun x hx => hv.mem x hx) hm).mono ?_
  rintro u w4 ⟨e4, rfl⟩
  have E4 := (E2.trans e3).trans e4
  rw [sBin_add _ _ ⟨by omega, by omega⟩, sBin_gtr, sIf_dec]
  refine ⟨fun h5 => ⟨E4, by unfold wrg; rw [if_pos h0, if_pos h5]⟩, fun h5 => ⟨E4, by unfold wrg; rw [if_pos h0, if_neg h5]⟩⟩
theorem len_runes : ∀ (n : Nat) (bs : List UInt8), bs.length ≤ n → bs.length ≤ 4 * (runes bs).length
  | n, bs, hn => by
    by_cases hne : bs = []
    · subst hne; simp
    · have hw := dl_width bs hne
      match n, hn with
      | 0, hn => omega
      | n + 1, hn =>
        have ih := len_runes n (bs.drop (dl bs).2) (by rw [List.length_drop]; omega)
        rw [List.length_drop] at ih
        rw [runes_cons hne, List.length_cons]
        omega
theorem val_tnr {n : Int} : ∀ {l : List Ed} {a : Int}, Val n a l → a ≤ n → (tnr l : Int) ≤ siz l + (n - a)
  | [], a, _, ha => by rw [siz_nil]; show (0 : Int) ≤ _; omega
  | x :: l, a, h, ha => by
    obtain ⟨⟨h1, h2, h3⟩, h4, h5⟩ := h
    have ih := val_tnr h5 h3
    rw [tnr_cons, siz_cons]
    have hd : dlt x = nr x - (x.2.1 - x.1) := rfl
    push_cast
    omega
theorem wrg_fits {n : Nat} {es : List Ed} (h : wrg n es = 0) : Fits es := fun x hx => by
  obtain ⟨⟨h64, hv⟩, hs⟩ := wrg_zero.1 h
  have h1 := val_tnr hv (by omega)
  have h2 := tnr_mem hx
  have h3 := len_runes _ x.2.2 (Nat.le_refl _)
  have h4 : nr x = (runes x.2.2).length := rfl
  omega
theorem bapply_big {w : World} {v l : Value} {ps : List (List Int)} {es : List Ed} (hM : Mo w) (h : Rp w v ps) (hp : RpOk ps) (hl : Sl w l 3 encE es) (hm : FitB es) : sCall Tryd.prog S.batch_Apply.n [v, l] w fun u w' => Ext w w' ∧
    ((wrg ps.flatten.length es ≠ 0 ∧ u = .tuple #[.pointer none, .int .i64 (wrg ps.flatten.length es)]) ∨
     (wrg ps.flatten.length es = 0 ∧ ∃ (bv : Nat) (ps' : List (List Int)), u = .tuple #[.pointer (some ⟨bv, 0, none⟩), .int .i64 0] ∧ Rp w' (.pointer (some ⟨bv, 0, none⟩)) ps' ∧ RpOk ps' ∧ ps'.flatten = app ps.flatten es)) := by
  by_cases h0 : wrg ps.flatten.length es = 0
  · exact bapply_spec hM h hp hl (wrg_fits h0)
  refine S.batch_Apply.call ?_
  unfold S.batch_Apply
  obtain ⟨a, rfl⟩ : ∃ a, v = .pointer a := by rcases h with ⟨rfl, _⟩ | ⟨b, t, rfl, _⟩ <;> exact ⟨_, rfl⟩
  refine sBox_new (cs := [.pointer a]) rfl fun b2 w1 hb2 hs1 e1 hk2 => ?_
  rw [sLoad_cell S.tcell_P_rope_Rope (hk2.cells.fst rfl)]
  refine (bwrong_big (h.ext e1) hp (hl.ext e1) hm).mono ?_
  rintro u w2 ⟨e2, rfl⟩
  rw [sBin_neq, sIf_not]
  exact ⟨fun hne => ⟨e1.trans e2, .inl ⟨hne, rfl⟩⟩, fun k => absurd k h0⟩
theorem binvert_big {w : World} {v l : Value} {ps : List (List Int)} {es : List Ed} (h : Rp w v ps) (hp : RpOk ps) (hl : Sl w l 3 encE es) (hm : FitB es) : sCall Tryd.prog S.batch_Invert.n [v, l] w fun u w' => Ext w w' ∧
    ((wrg ps.flatten.length es ≠ 0 ∧ u = .tuple #[.slice none 0 0, .int .i64 (wrg ps.flatten.length es)]) ∨
     (wrg ps.flatten.length es = 0 ∧ ∃ m : Value, u = .tuple #[m, .int .i64 0] ∧ Row w' w.heap.size S.T.api_Edit 3 m encE (inve ps.flatten 0 es))) := by
  by_cases h0 : wrg ps.flatten.length es = 0
  · exact binvert_spec h hp hl (wrg_fits h0)
  refine S.batch_Invert.call ?_
  unfold S.batch_Invert
  refine (bwrong_big h hp hl hm).mono ?_
  rintro u w2 ⟨e2, rfl⟩
  rw [sBin_neq, sIf_not]
  exact ⟨fun hne => ⟨e2, .inl ⟨hne, rfl⟩⟩, fun k => absurd k h0⟩
end Go.Proofs.YtpjmmhbdondknaaDoor
