/- The laws of cursors answer true: a nil one, all items, one back. No conditions but that of memory. -/
import Derived.Test.YtmlbaimdphillaaV2
import Derived.Test.YtmlbaimdphillaaUr06
namespace Go.Proofs.Ytmlbaimdphillaa
open Go Go.Lift Go.RowKit

abbrev it7 : It := ⟨0, 7, 3, 0, 0, 0, ⟨#[]⟩⟩
abbrev ts7 : List It := [it3 1, it3 2, it7]
theorem itm7 {w : World} {K : K1} : sBuild Try.prog S.T.item_Item [(1, .int .i64 7), (2, .agg [.int .i64 3, .int .i64 0, .int .i64 0].toArray)] w K = K (.agg (encT it7).toArray) w :=
  sBuild_of (cs := encT it7) (lp := [(1, [.int .i64 7]), (2, [.int .i64 3, .int .i64 0, .int .i64 0])]) S.tze_item_Item S.tpl_item_Item rfl rfl
theorem fnd7 : Fnd ts7 0 1 1 1 := by
  refine ⟨by decide, fun m hm => ?_, fun _ => by decide⟩
  obtain rfl : m = 0 := by omega
  decide
theorem tkn7 : Tkn ts7 0 3 1 2 := by
  refine ⟨by decide, by decide, fun m h1 h2 => ?_, fun _ => by decide⟩
  obtain rfl : m = 1 := by omega
  decide
theorem third_spec (w : World) : sCall Try.prog S.bodkinlaw06_third.n [] w (Yes w) := by
  refine S.bodkinlaw06_third.call ?_
  unfold S.bodkinlaw06_third
  rw [arr3, itm3, arr3, itm3, arr3, itm7]
  refine sBuildSlice_own (n := 3) (enc := encT) (xs := ts7) (lp := [(0, encT (it3 1)), (1, encT (it3 2)), (2, encT it7)]) S.tel_L_item_Item S.tsz_item_Item rfl S.tze_item_Item (by decide) (by decide) encT_ok rfl rfl fun l w1 _ ho1 e1 _ => ?_
  have hok : ∀ x ∈ ts7, ItOk x := by decide
  refine (newOk (ho1.sl encT_ok) hok (by decide)).mono ?_
  rintro u w2 ⟨e2, b, rfl, ht⟩
  have E2 := e1.trans e2
  rw [sExtract_0, sExtract_1]
  refine (snew_spec ht).mono ?_
  rintro u w3 ⟨e3, bc, rfl, hbc, hk⟩
  have ht3 := ht.ext e3
  refine (sto_spec (i := 0) (vis := 0) (dim := 0) (v := 1) (bias := 1) hk ht3 hok (by decide)).mono ?_
  rintro u w4 hu
  rcases hu with ⟨h, _⟩ | ⟨_, hg4, rfl, n, vis, hf, hk4⟩
  · exact absurd (by decide) h
  obtain rfl := hf.uniq fnd7
  have E4 : Ext w2 w4 := e3.wr hg4 (by rintro _ ⟨⟩; exact hbc)
  have htb : ∀ w5, w4.grownBy w5 (some bc) → Ext w2 w5 := fun w5 h => E4.wr h (by rintro _ ⟨⟩; exact hbc)
  refine (stake_spec (i := 1) (xs := ts7) (dim := 0) (v := 3) hk4 (fun w5 h => ht.ext (htb w5 h)) (by decide) (by decide)).mono ?_
  rintro u w5 ⟨hg5, j, hk5, hs5, _, _, hj⟩
  rcases hj with ⟨h, _⟩ | ⟨_, _, htk⟩
  · exact absurd (by decide) h
  obtain rfl := htk.uniq tkn7
  have E5 := htb w5 hg5
  refine (sitem_spec (i := 2) hk5 (ht.ext E5) (by decide)).mono ?_
  rintro v w6 ⟨e6, hv⟩
  rcases hv with ⟨h, _⟩ | ⟨x, hx, rfl⟩
  · exact absurd h (by decide)
  cases hx
  have hs6 := hs5.ext e6
  rw [sExtract_0, sExtract_1]
  refine sVar (vs := encT it7) S.tze_item_Item S.tsz_item_Item (by decide) rfl rfl (encT_ok.one it7) fun b6 w7 hb6 hs7 e7 hk7 => ?_
  have hl1 : (((ts7.take 2).drop 1).length : Int) = 1 := by decide
  rw [sBin_eql, sIf_pos rfl, sBin_eql, sIf_pos rfl, sLen_sl S.tel_L_item_Item (hs6.ext e7), hl1, sBin_eql, sIf_pos rfl, sIf_true, sFldA_ptr S.tfl_item_Item_ID, sLoad_cell S.tcell_int (hk7.cells.at 1 rfl), sBin_eql, sIf_pos rfl]
  have F7 := e6.trans e7
  refine (sstart_spec (hk5.ext F7)).mono ?_
  rintro u w8 ⟨e8, rfl⟩
  rw [sFld_agg (n := 3) S.tfd_item_Sum_D S.tagg_A3_int, sIdx_cell (i := 0) (z := 0) (v := .int .i64 (allS (ts7.take 2)).d0) S.tar_A3_int S.tcell_int S.tsz_int (by omega) rfl rfl, sBin_eql, sIf_pos (by decide)]
  have F8 := F7.trans e8
  refine (send_spec (i := 2) (xs := ts7) (hk5.ext F8) (ht.ext (E5.trans F8)) (by decide) (by decide)).mono ?_
  rintro u w9 ⟨e9, rfl⟩
  rw [sFld_agg (n := 3) S.tfd_item_Sum_D S.tagg_A3_int, sIdx_cell (i := 0) (z := 0) (v := .int .i64 (allS (ts7.take 3)).d0) S.tar_A3_int S.tcell_int S.tsz_int (by omega) rfl rfl, sBin_eql]
  have h6 : decide ((allS (ts7.take 3)).d0 = 6) = true := by decide
  rw [h6]
  exact ⟨E2.trans (E5.trans (F8.trans e9)), rfl⟩
theorem then7 {w w1 : World} (e : Ext w w1) : sCall Try.prog S.bodkinlaw06_third.n [] w1 (Yes w) := (third_spec w1).mono fun _ _ h => Yes.of e h

/-! ## A nil cursor -/
theorem nitem {w : World} : sCall Try.prog S.seek_Cursor_Item.n [.pointer none] w fun u w' => Ext w w' ∧ u = .tuple #[.agg (encT zeroIt).toArray, .bool false] := by
  refine S.seek_Cursor_Item.call ?_
  unfold S.seek_Cursor_Item
  refine sAlloc_new S.tze_item_Item fun b2 w1 hb2 hs1 e1 hk2 => ?_
  rw [sBin_ptr_eq S.tpt_P_seek_Cursor, Option.isNone_none, sIf_true, sBuild_of (cs := encT zeroIt) (lp := []) S.tze_item_Item S.tpl_item_Item rfl rfl]
  refine sStore_blk S.tsz_item_Item (by decide) hk2 (vs := encT zeroIt) rfl rfl (by simp) (encT_ok.one _) fun w5 hs5 hg5 hk5 => ?_
  rw [sLoad_agg (cs := encT zeroIt) S.tagg_item_Item hk5.cells rfl]
  exact ⟨rfl, e1.wr hg5 (by rintro _ ⟨⟩; omega), rfl⟩
theorem nstart {w : World} : sCall Try.prog S.seek_Cursor_Start.n [.pointer none] w fun u w' => Ext w w' ∧ u = .agg (encS zeroS).toArray := by
  refine S.seek_Cursor_Start.call ?_
  unfold S.seek_Cursor_Start
  refine sAlloc_new S.tze_item_Sum fun b2 w1 hb2 hs1 e1 hk2 => ?_
  rw [sBin_ptr_eq S.tpt_P_seek_Cursor, Option.isNone_none, sIf_true, sBuild_of (cs := encS zeroS) (lp := []) S.tze_item_Sum S.tpl_item_Sum rfl rfl]
  refine sStore_blk S.tsz_item_Sum (by decide) hk2 (vs := encS zeroS) rfl rfl (by simp) (encS_one _) fun w5 hs5 hg5 hk5 => ?_
  rw [sLoad_agg (cs := encS zeroS) S.tagg_item_Sum hk5.cells rfl]
  exact ⟨rfl, e1.wr hg5 (by rintro _ ⟨⟩; omega), rfl⟩
theorem nend {w : World} : sCall Try.prog S.seek_Cursor_End.n [.pointer none] w fun u w' => Ext w w' ∧ u = .agg (encS zeroS).toArray := by
  refine S.seek_Cursor_End.call ?_
  unfold S.seek_Cursor_End
  refine sAlloc_new S.tze_item_Sum fun b2 w1 hb2 hs1 e1 hk2 => ?_
  refine nitem.mono ?_
  rintro u w2 ⟨e2, rfl⟩
  rw [sExtract_0, sExtract_1]
  refine sVar (vs := encT zeroIt) S.tze_item_Item S.tsz_item_Item (by decide) rfl rfl (encT_ok.one _) fun b3 w3 hb3 hs3 e3 hk3 => ?_
  rw [sUn_not, Bool.not_false, sIf_true]
  refine nstart.mono ?_
  rintro u w4 ⟨e4, rfl⟩
  have F4 := (e2.trans e3).trans e4
  refine sStore_blk S.tsz_item_Sum (by decide) (hk2.ext F4) (vs := encS zeroS) rfl rfl (by simp) (encS_one _) fun w5 hs5 hg5 hk5 => ?_
  rw [sLoad_agg (cs := encS zeroS) S.tagg_item_Sum hk5.cells rfl]
  exact ⟨rfl, (e1.trans F4).wr hg5 (by rintro _ ⟨⟩; omega), rfl⟩
theorem nnext {w : World} : sCall Try.prog S.seek_Cursor_Next.n [.pointer none] w fun u w' => Ext w w' ∧ u = .bool false := by
  refine S.seek_Cursor_Next.call ?_
  unfold S.seek_Cursor_Next
  refine nitem.mono ?_
  rintro u w2 ⟨e2, rfl⟩
  rw [sExtract_0, sExtract_1]
  refine sVar (vs := encT zeroIt) S.tze_item_Item S.tsz_item_Item (by decide) rfl rfl (encT_ok.one _) fun b3 w3 hb3 hs3 e3 hk3 => ?_
  rw [sUn_not, Bool.not_false, sIf_true]
  exact ⟨e2.trans e3, rfl⟩
theorem ntake {w : World} (dim v : Int) : sCall Try.prog S.seek_Cursor_Take.n [.pointer none, .int .i64 dim, .int .i64 v] w fun u w' => Ext w w' ∧ u = .slice none 0 0 := by
  refine S.seek_Cursor_Take.call ?_
  unfold S.seek_Cursor_Take
  rw [sBin_lss, sIf_dec]
  refine ⟨fun h => ⟨Ext.refl w, rfl⟩, fun h1 => ?_⟩
  rw [sBin_gtr, sIf_dec]
  refine ⟨fun h => ⟨Ext.refl w, rfl⟩, fun h2 => ?_⟩
  refine LoopS.intro (fun us w1 => us = [.slice none 0 0] ∧ Ext w w1) (fun _ _ => 0) ⟨rfl, Ext.refl w⟩ ?_
  rintro us vs w1 ⟨rfl, e1⟩
  unfold S.seek_Cursor_Take_L1
  refine nitem.mono ?_
  rintro u w2 ⟨e2, rfl⟩
  rw [sExtract_0, sExtract_1]
  refine sVar (vs := encT zeroIt) S.tze_item_Item S.tsz_item_Item (by decide) rfl rfl (encT_ok.one _) fun b3 w3 hb3 hs3 e3 hk3 => ?_
  rw [sUn_not, Bool.not_false, sIf_true]
  exact ⟨(e1.trans e2).trans e3, rfl⟩

theorem nto {w : World} (a b c : Int) : sCall Try.prog S.seek_Cursor_To.n [.pointer none, .int .i64 a, .int .i64 b, .int .i64 c] w fun u w' => w' = w ∧ u = .int .i64 7 := by
  refine S.seek_Cursor_To.call ?_
  unfold S.seek_Cursor_To
  rw [sBin_ptr_eq S.tpt_P_seek_Cursor]
  exact ⟨rfl, rfl⟩
theorem nback {w : World} : sCall Try.prog S.seek_Cursor_Back.n [.pointer none] w fun u w' => w' = w ∧ u = .bool false := by
  refine S.seek_Cursor_Back.call ?_
  unfold S.seek_Cursor_Back
  rw [sBin_ptr_eq S.tpt_P_seek_Cursor]
  exact ⟨rfl, rfl⟩
/-- A step of a cursor: what, by which size, how far, to which side. -/
abbrev Sks := Int × Int × Int × Int
def encSk (p : Sks) : List Value := [.int .i64 p.1, .int .i64 p.2.1, .int .i64 p.2.2.1, .int .i64 p.2.2.2]
theorem encSk_ok : Enc encSk 4 := ⟨fun _ => rfl, fun x u hu => by simp [encSk] at hu; rcases hu with rfl | rfl | rfl | rfl <;> rfl⟩
theorem seekNil_spec (w : World) (p : Sks) : S.bodkinlaw06_SeekNil (Yes w) (.agg (encSk p).toArray) w := by
  unfold S.bodkinlaw06_SeekNil
  refine sBox_new (cs := encSk p) rfl fun b1 w1 hb1 hs1 e1 hk1 => ?_
  refine nitem.mono ?_
  rintro u w2 ⟨e2, rfl⟩
  rw [sExtract_0, sExtract_1]
  refine sVar (vs := encT zeroIt) S.tze_item_Item S.tsz_item_Item (by decide) rfl rfl (encT_ok.one _) fun b4 w3 hb4 hs3 e3 hk4 => ?_
  have F3 := e2.trans e3
  have k3 := hk1.ext F3
  rw [sFldA_ptr S.tfl_bodkinlaw06_Step_Dim, sLoad_cell S.tcell_int (k3.cells.at 1 rfl), sFldA_ptr S.tfl_bodkinlaw06_Step_V, sLoad_cell S.tcell_int (k3.cells.at 2 rfl), sFldA_ptr S.tfl_bodkinlaw06_Step_Bias, sLoad_cell S.tcell_int (k3.cells.at 3 rfl)]
  refine (nto _ _ _).mono ?_
  rintro u w3 ⟨rfl, rfl⟩
  rw [sBin_eql, sIf_pos rfl, sUn_not, Bool.not_false, sIf_true]
  refine nnext.mono ?_
  rintro u w4 ⟨e4, rfl⟩
  rw [sUn_not, Bool.not_false, sIf_true]
  refine nback.mono ?_
  rintro u w4 ⟨rfl, rfl⟩
  have k4 := k3.ext e4
  rw [sUn_not, Bool.not_false, sIf_true, sFldA_ptr S.tfl_bodkinlaw06_Step_Dim, sLoad_cell S.tcell_int (k4.cells.at 1 rfl), sFldA_ptr S.tfl_bodkinlaw06_Step_V, sLoad_cell S.tcell_int (k4.cells.at 2 rfl)]
  refine (ntake p.2.1 p.2.2.1).mono ?_
  rintro u w5 ⟨e5, rfl⟩
  rw [sLen_sl S.tel_L_item_Item (Sl.nil w5 7 encT), sBin_eql, sIf_pos (show ((([] : List It).length : Nat) : Int) = 0 from rfl)]
  refine nstart.mono ?_
  rintro u w6 ⟨e6, rfl⟩
  obtain ⟨r, hr1, hr2, _⟩ := sums_eq (cx := false) (cy := false) zeroS zeroS
  rw [sBuild_of (cs := encS zeroS) (lp := []) S.tze_item_Sum S.tpl_item_Sum rfl rfl, hr2, hr1.2 rfl, sIf_true]
  refine nend.mono ?_
  rintro u w7 ⟨e7, rfl⟩
  rw [sBuild_of (cs := encS zeroS) (lp := []) S.tze_item_Sum S.tpl_item_Sum rfl rfl, hr2, hr1.2 rfl, sIf_true]
  exact then7 ((((e1.trans F3).trans e4).trans (e5.trans e6)).trans e7)

theorem seekAll_spec {w : World} {l : Value} {xs : List It} (hl : Sl w l 7 encT xs) : S.bodkinlaw06_SeekAll (Yes w) l w := by
  unfold S.bodkinlaw06_SeekAll
  refine (R06.right_spec hl).mono ?_
  rintro u w1 ⟨E1, r, rfl, hr⟩
  rw [sUn_not, sIf_bool]
  refine ⟨fun _ => then7 E1, fun h => ?_⟩
  obtain ⟨hn, hx⟩ := hr.1 (by simpa using h)
  refine (newOk (hl.ext E1) hx (by omega)).mono ?_
  rintro u w2 ⟨e2, bt, rfl, ht⟩
  have E2 := E1.trans e2
  rw [sExtract_0, sExtract_1]
  refine (snew_spec ht).mono ?_
  rintro u w3 ⟨e3, bc, rfl, hbc, hk⟩
  have E3 := E2.trans e3
  rw [sBin_neq, sIf_not]
  refine ⟨fun h => absurd rfl h, fun _ => ?_⟩
  rw [sBin_ptr_eq S.tpt_P_seek_Cursor, Option.isNone_some, sIf_false, sBuild_of (cs := encS zeroS) (lp := []) S.tze_item_Sum S.tpl_item_Sum rfl rfl]
  refine sVar (vs := encS zeroS) S.tze_item_Sum S.tsz_item_Sum (by decide) rfl rfl (encS_one _) fun bl w4 hbl hs4 e4 hkl => ?_
  have E4 := E3.trans e4
  have hbc3 := hk.lt
  have s2 := E2.size
  have s3 := e3.size
  rw [sLen_sl S.tel_L_item_Item (hl.ext E4)]
  refine LoopS.intro (fun us w5 => Ext w2 w5 ∧ ∃ (i vis : Nat), us = [.int .i64 i] ∧ i ≤ xs.length ∧ Blk w5 bc (encCu (.pointer (some ⟨bt, 0, none⟩)) i (allS (xs.take i)) vis) ∧ Blk w5 bl (encS (allS (xs.take i))))
    (fun us _ => match us with | [.int _ a] => (xs.length - a).toNat | _ => 0) ⟨e3.trans e4, 0, 0, rfl, by omega, hk.ext e4, hkl⟩ ?_
  rintro us vs w5 ⟨e5, i, vis, rfl, hi, hk, hkl⟩
  unfold S.bodkinlaw06_SeekAll_L1
  have E5 := E2.trans e5
  have hcl : some bc ≠ some bl := by intro e; cases e; omega
  rw [Go.Lift.hd, sBin_lss, sIf_dec]
  refine ⟨fun hlt => ?_, fun hge => ?_⟩
  · obtain ⟨x, hxi⟩ : ∃ x, xs[i]? = some x := ⟨_, List.getElem?_eq_getElem (by omega)⟩
    obtain ⟨b1, o1, hel, hc⟩ := (hl.ext E5).el hxi
    rw [sIdxA_sl S.tel_L_item_Item S.tsz_item_Item (by omega) (hl.ext E5) hxi rfl, hel, sLoad_agg S.tagg_item_Item hc rfl]
    refine sVar S.tze_item_Item S.tsz_item_Item (by decide) rfl rfl (encT_ok.one x) fun b8 w6 hb8 hs6 e6 hk8 => ?_
    refine (sitem_spec (hk.ext e6) (ht.ext (e5.trans e6)) (by omega)).mono ?_
    rintro u w7 ⟨e7, hu⟩
    rcases hu with ⟨h, _⟩ | ⟨x', hx', rfl⟩
    · omega
    rw [hxi] at hx'; cases hx'
    rw [sExtract_0, sExtract_1]
    refine sVar (vs := encT x) S.tze_item_Item S.tsz_item_Item (by decide) rfl rfl (encT_ok.one x) fun b9 w8 hb9 hs8 e8 hk9 => ?_
    have F8 := (e6.trans e7).trans e8
    have k8 := (hk8.ext e7).ext e8
    refine DrawS.ext ?_
    have E : Ext w8 w8.drew := (Ext.refl w8).drew
    obtain ⟨r2, hr1, _, hr3⟩ := items_eq (cx := false) (cy := false) x x
    rw [stillS_eq (fun w1 h1 K => sUn_not true) E, Bool.not_true, sIf_false, stillS_agg (cs := encT x) S.tagg_item_Item hk9.cells rfl E, stillS_agg (cs := encT x) S.tagg_item_Item k8.cells rfl E, stillS_eq (fun w1 h1 K => hr3 w1 K) E, hr1.2 rfl, Bool.not_true, sIf_false,
      stillS_agg (cs := encS (allS (xs.take i))) S.tagg_item_Sum (hkl.ext F8).cells rfl E]
    refine (sstart_spec ((hk.ext F8).ext E)).mono ?_
    rintro u w9 ⟨e9, rfl⟩
    have G9 := E.trans e9
    refine ⟨G9, ?_⟩
    obtain ⟨r4, hr4, _, hr6⟩ := sums_eq (cx := false) (cy := false) (allS (xs.take i)) (allS (xs.take i))
    rw [stillS_eq (fun w1 h1 K => hr6 w1 K) G9, hr4.2 rfl, Bool.not_true, sIf_false]
    have F9 := F8.trans G9
    refine (send_spec (hk.ext F9) (ht.ext (e5.trans F9)) (by omega) hi).mono ?_
    rintro u w10 ⟨e10, rfl⟩
    have F10 := F9.trans e10
    have hbl2 : w2.heap.size ≤ bl := by omega
    refine sStore_blk S.tsz_item_Sum (by decide) (hkl.ext F10) (vs := encS (allS (xs.take (i + 1)))) rfl rfl (by simp [encS]) (encS_one _) fun w11 hs11 hg11 hk11 => ?_
    have hk11 : Blk w11 bl (encS (allS (xs.take (i + 1)))) := hk11
    have e11 : Ext w2 w11 := (e5.trans F10).wr hg11 (by rintro _ ⟨⟩; exact hbl2)
    have hkc := (hk.ext F10).wr hg11 hcl
    refine (snext_spec hkc (ht.ext e11) (by omega) hi).mono ?_
    rintro u w12 hu
    rcases hu with ⟨h, _⟩ | ⟨_, hg12, rfl, hk12⟩
    · omega
    rw [sUn_not, Bool.not_true, sIf_false, sBin_add _ _ ⟨by omega, by omega⟩]
    exact ⟨⟨e11.wr hg12 (by rintro _ ⟨⟩; exact hbc), i + 1, vis, by simp, by omega, hk12, hk11.wr hg12 hcl.symm⟩, by simp only []; omega⟩
  · obtain rfl : i = xs.length := by omega
    refine (sitem_spec hk (ht.ext e5) (by omega)).mono ?_
    rintro u w6 ⟨e6, hu⟩
    rcases hu with ⟨_, rfl⟩ | ⟨x', hx', _⟩
    case inr => have := (List.getElem?_eq_some_iff.1 hx').1; omega
    rw [sExtract_0, sExtract_1]
    refine sVar (vs := encT zeroIt) S.tze_item_Item S.tsz_item_Item (by decide) rfl rfl (encT_ok.one _) fun b9 w7 hb9 hs7 e7 hk9 => ?_
    have F7 := e6.trans e7
    refine DrawS.ext ?_
    have E : Ext w7 w7.drew := (Ext.refl w7).drew
    rw [stillS_eq (fun w1 h1 K => sUn_not false) E, Bool.not_false, sIf_true]
    refine (snext_spec ((hk.ext F7).ext E) ((ht.ext (e5.trans F7)).ext E) (by omega) (by omega)).mono ?_
    rintro u w8 hu
    rcases hu with ⟨_, e8, rfl⟩ | ⟨h, _⟩
    case inr => omega
    have G8 := E.trans e8
    refine ⟨G8, ?_⟩
    obtain ⟨r4, hr4, hr5, _⟩ := sums_eq (cx := false) (cy := false) (allS xs) (allS xs)
    rw [List.take_length] at hk hkl
    rw [stillS_eq (fun w1 h1 K => sUn_not false) G8, Bool.not_false, sIf_true, stillS_agg (cs := encS (allS xs)) S.tagg_item_Sum (hkl.ext F7).cells rfl G8]
    refine (sstart_spec ((hk.ext F7).ext G8)).mono ?_
    rintro u w9 ⟨e9, rfl⟩
    have G9 := G8.trans e9
    refine ⟨G9, ?_⟩
    rw [stillS_eq (fun w1 h1 K => hr5 w1 K) G9, hr4.2 rfl, sIf_true, stillS_agg (cs := encS (allS xs)) S.tagg_item_Sum (hkl.ext F7).cells rfl G9]
    refine (tsum_spec (ht.ext ((e5.trans F7).trans G9))).mono ?_
    rintro u w10 ⟨e10, rfl⟩
    have G10 := G9.trans e10
    refine ⟨G10, ?_⟩
    rw [stillS_eq (fun w1 h1 K => hr5 w1 K) G10, hr4.2 rfl, sIf_true]
    refine (third_spec _).mono ?_
    rintro u w12 ⟨e12, rfl⟩
    exact ⟨G10.trans e12, (E5.trans (F7.trans G10)).trans e12, rfl⟩
end Go.Proofs.Ytmlbaimdphillaa
