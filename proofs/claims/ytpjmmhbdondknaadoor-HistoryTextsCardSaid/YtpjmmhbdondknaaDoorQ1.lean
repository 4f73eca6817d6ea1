/- Runes and texts: what their functions give; a rope's piece, and a text cut in pieces. Conditions: the table of sizes in memory; not too long. -/
import Derived.Test.YtpjmmhbdondknaaDoorPu
import Derived.Test.YtpjmmhbdondknaaDoorTf
namespace Go.Proofs.YtpjmmhbdondknaaDoor
open Go Go.Lift Go.RowKit Go.Txt

theorem tstr : Tryd.prog.underlying S.T.string = some .string := by kernel_rfl
theorem tbyt : Tryd.prog.underlying S.T.L_uint8 = some (.slice S.T.uint8) := by kernel_rfl
theorem tu8 : Tryd.prog.underlying S.T.uint8 = some (.int .u8) := by kernel_rfl
theorem ti32 : (Tryd.prog.underlying S.T.int32).isSome = true := by kernel_rfl
theorem tu8z : (Tryd.prog.info? S.T.uint8).map (·.zero) = some (some (.int .u8 0)) := by kernel_rfl
abbrev encRn (r : Int) : List Value := [.int .i32 r]
theorem encRn_ok : Enc encRn 1 := ⟨fun _ => rfl, fun x u hu => by simp at hu; subst hu; rfl⟩
/-- The table of the greatest numbers, in memory. -/
def Mo (w : World) : Prop := Cells w 0 0 [.int .i32 127, .int .i32 2047, .int .i32 65535, .int .i32 1114111]
theorem Mo.ext {w w' : World} (h : Mo w) (e : Ext w w') : Mo w' := Cells.ext h e
theorem uright_spec {w : World} (hM : Mo w) (r : Int) : sCall Tryd.prog S.utf_right.n [.int .i32 r] w fun u w' => w' = w ∧ u = .bool (decide (okR r)) := by
  refine S.utf_right.call ?_
  unfold S.utf_right
  rw [sBin_geq, sIf_dec]
  refine ⟨fun h1 => ?_, fun h1 => ⟨rfl, by rw [decide_eq_false]; unfold okR; omega⟩⟩
  have h3 : w.cell? ⟨0, 0 + 3 * 1, none⟩ = some (.int .i32 1114111) := Cells.at hM 3 rfl
  rw [sIdxA_arr (i := 3) (z := 3) S.tar_A4_int32 S.tsz_int32 (by omega) (by omega) rfl, sLoad_cell S.tcell_int32 h3, sBin_leq, sIf_dec]
  refine ⟨fun h2 => ?_, fun h2 => ⟨rfl, by rw [decide_eq_false]; unfold okR; omega⟩⟩
  rw [sBin_lss, sIf_dec]
  refine ⟨fun h4 => ⟨rfl, by rw [decide_eq_true]; unfold okR; omega⟩, fun h4 => ?_⟩
  rw [sBin_gtr]
  refine ⟨rfl, ?_⟩
  congr 1
  apply decide_eq_decide.2
  unfold okR
  omega
theorem udecode_spec {w : World} (l : List UInt8) (hn : l.length ≤ 10000000) : sCall Tryd.prog S.utf_Decode.n [tv l] w fun u w' => Ext w w' ∧ Row w' w.heap.size S.T.int32 1 u encRn (runes l) := by
  refine S.utf_Decode.call ?_
  unfold S.utf_Decode
  have hmx : maxLen = 9223372036854775807 := rfl
  refine sRange_str tstr fun b w1 hb hs1 e1 hi1 => ?_
  refine LoopS.ix (fun i us w2 => Ext w w2 ∧ b < w2.heap.size ∧ ∃ (pos : Nat) (v : Value) (ds : List Int), i = l.length - pos ∧ us = [v] ∧ pos ≤ l.length ∧ Iter w2 b l pos ∧ Row w2 (b + 1) S.T.int32 1 v encRn ds ∧ runes l = ds ++ runes (l.drop pos))
    ⟨l.length - 0, e1, by omega, 0, _, [], rfl, rfl, by omega, hi1, Row.nil _ _ _ _ _, by simp⟩ ?_
  rintro i us vs w2 ⟨E2, hbl, pos, v, ds, rfl, rfl, hp, hit, hv, hr⟩
  unfold S.utf_Decode_L1
  rw [Go.Lift.hd]
  have hds : ds.length ≤ 10000000 := by
    have h1 := runes_len l
    rw [hr, List.length_append] at h1
    omega
  by_cases hlt : pos < l.length
  · refine sNext_str hit hlt fun w3 hs3 hg3 hit3 => ?_
    have hne : l.drop pos ≠ [] := fun h => by have := congrArg List.length h; rw [List.length_drop] at this; simp at this; omega
    have hw := dl_width _ hne
    rw [List.length_drop] at hw
    rw [sExtract_0, sIf_true, sExtract_2]
    refine sBuildSlice_own (n := 1) (enc := encRn) (xs := [((dl (l.drop pos)).1 : Int)]) (lp := [(0, encRn (dl (l.drop pos)).1)]) S.tel_L_int32 S.tsz_int32 rfl S.tze_int32 (by decide) (by decide) encRn_ok rfl rfl fun t w4 ht ho4 e4 hs4 => ?_
    have hv3 : Row w3 (b + 1) S.T.int32 1 v encRn ds := hv.wr hg3 (by
      cases ho : v.ownBlock with
      | none => exact .inl rfl
      | some g => exact .inr (by intro e; cases e; have := hv.lt b ho; omega))
    have s4 := e4.size
    refine sAppend_row S.tel_L_int32 S.tsz_int32 (by decide) S.tze_int32 rfl encRn_ok (hv3.ext e4) (by omega) (ho4.sl encRn_ok) (by simp; omega) (by rw [S.tby_int32]; simp; omega) fun v' w5 hv5 hg5 _ => ?_
    have hnb : some b ≠ v.ownBlock := fun e => by have := hv.lt b e.symm; omega
    refine ⟨l.length - (pos + (dl (l.drop pos)).2), by omega, ((E2.wr hg3 (by rintro _ ⟨⟩; omega)).trans e4).wr hg5 (fun g hg => by have := hv.lt g hg; omega), by have := hg5.size; omega, pos + (dl (l.drop pos)).2, v', ds ++ [((dl (l.drop pos)).1 : Int)], rfl, rfl, by omega, (hit3.ext e4).wr hg5 hnb, hv5, ?_⟩
    rw [hr, runes_cons hne, List.drop_drop, List.append_assoc]
    rfl
  · obtain rfl : pos = l.length := by omega
    rw [sNext_end hit (by omega), sExtract_0, sIf_false]
    rw [List.drop_length, runes_nil, List.append_nil] at hr
    rw [hr]
    exact ⟨E2, hv.mono (by omega)⟩
theorem uencode_spec {w : World} {v : Value} {l : List Int} (hM : Mo w) (hl : Sl w v 1 encRn l) (hn : l.length ≤ 10000000) : sCall Tryd.prog S.utf_Encode.n [v] w fun u w' => Ext w w' ∧ u = tv (txt l) := by
  refine S.utf_Encode.call ?_
  unfold S.utf_Encode
  rw [sLen_sl S.tel_L_int32 hl]
  refine LoopS.intro (fun us w1 => Ext w w1 ∧ ∃ (i : Nat) (o : Value), us = [o, .int .i64 i] ∧ i ≤ l.length ∧ Own w1 w.heap.size S.T.uint8 1 o encB (txt (l.take i)) ∧ (txt (l.take i)).length ≤ 4 * i)
    (fun us _ => match us with | [_, .int _ a] => (l.length - a).toNat | _ => 0) ⟨Ext.refl w, 0, _, rfl, Nat.zero_le _, Own.nil _ _ _ _ _, by simp [txt]⟩ ?_
  rintro us vs w1 ⟨e1, i, o, rfl, hi, ho, hlen⟩
  unfold S.utf_Encode_L1
  rw [Go.Lift.hd, Go.Lift.tl, Go.Lift.hd, sBin_lss, sIf_dec]
  refine ⟨fun hlt => ?_, fun hge => ?_⟩
  · obtain ⟨r, hr⟩ : ∃ r, l[i]? = some r := ⟨_, List.getElem?_eq_getElem (by omega)⟩
    obtain ⟨b, of, hel, hc⟩ := (hl.ext e1).el hr
    rw [sIdxA_sl S.tel_L_int32 S.tsz_int32 (by omega) (hl.ext e1) hr rfl, hel, sLoad_cell (v := .int .i32 r) S.tcell_int32 (hc.fst rfl)]
    refine JoinS.intro (fun us w' => w' = w1 ∧ us = [.int .i32 (norm r)]) ?_ ?_
    · refine (uright_spec (hM.ext e1) r).mono ?_
      rintro u w2 ⟨rfl, rfl⟩
      rw [sUn_not, sIf_not]
      exact ⟨fun h => ⟨rfl, by unfold norm; rw [if_neg h]⟩, fun h => ⟨rfl, by unfold norm; rw [if_pos h]⟩⟩
    rintro us vs w1 ⟨rfl, rfl⟩
    unfold S.utf_Encode_J2
    have hs4 := enc_len r
    unfold sz at hs4
    rw [Go.Lift.hd, sConv_rune ti32 tstr, enc_norm]
    refine sAppend_str S.tel_L_uint8 tstr S.tsz_uint8 S.tze_uint8 tu8z S.tby_uint8 ho e1.size (by omega) fun o' w2 ho2 hg2 => ?_
    rw [sBin_add _ _ ⟨by omega, by omega⟩]
    have et : txt (l.take (i + 1)) = txt (l.take i) ++ enc r := by rw [take_succ_of hr, txt_append, txt_cons, txt_nil, List.append_nil]
    refine ⟨⟨e1.wr hg2 (fun g hg => (ho.lt g hg).1), i + 1, o', by simp, by omega, by rw [et]; exact ho2, by rw [et, List.length_append]; omega⟩, by simp only []; omega⟩
  · obtain rfl : i = l.length := by omega
    rw [List.take_length] at ho
    rw [sConv_bytes tbyt tu8 tstr (ho.sl encB_ok)]
    exact ⟨e1, rfl⟩
/-- How many breaks. -/
def nls (l : List Int) : Nat := l.countP (· == 10)
theorem nls_append (a b : List Int) : nls (a ++ b) = nls a + nls b := List.countP_append ..
/-- A piece's item. -/
def itP (l : List Int) : It := ⟨0, 0, (txt l).length, l.length, nls l, 0, ⟨(txt l).toArray⟩⟩
theorem txt_len (l : List Int) : l.length ≤ (txt l).length ∧ (txt l).length ≤ 4 * l.length := by
  induction l with
  | nil => simp [txt]
  | cons r l ih =>
    have := enc_len r
    unfold sz at this
    rw [txt_cons, List.length_append, List.length_cons]; omega
theorem nls_le (l : List Int) : nls l ≤ l.length := List.countP_le_length
theorem pieceOf_spec {w : World} {v : Value} {l : List Int} (hM : Mo w) (hl : Sl w v 1 encRn l) (hn : l.length ≤ 1000000) : sCall Tryd.prog S.rope_pieceOf.n [v] w fun u w' => Ext w w' ∧ u = .agg (encT (itP l)).toArray := by
  refine S.rope_pieceOf.call ?_
  unfold S.rope_pieceOf
  refine sAlloc_new S.tze_item_Item fun b2 w1 hb2 hs1 e1 hk2 => ?_
  refine (uencode_spec (hM.ext e1) (hl.ext e1) (by omega)).mono ?_
  rintro u w2 ⟨e2, rfl⟩
  have E2 := e1.trans e2
  have htl := txt_len l
  rw [sBuild_of (cs := encT ⟨0, 0, 0, 0, 0, 0, ⟨(txt l).toArray⟩⟩) (lp := [(4, [tv (txt l)])]) S.tze_item_Item S.tpl_item_Item rfl rfl]
  refine sVar (vs := encT ⟨0, 0, 0, 0, 0, 0, ⟨(txt l).toArray⟩⟩) S.tze_item_Item S.tsz_item_Item (by decide) rfl rfl (encT_ok.one _) fun b3 w3 hb3 hs3 e3 hk3 => ?_
  have E3 := E2.trans e3
  have s1 := e1.size
  have s2 := e2.size
  rw [sFldA_ptr S.tfl_item_Item_Text, sLoad_cell (v := tv (txt l)) S.tcell_string (hk3.cells.at 6 rfl), sLen_str tstr, sLen_sl S.tel_L_int32 (hl.ext E3), sFldA_ptr S.tfl_item_Item_D, sIdxA_arr (i := 0) (z := 0) S.tar_A3_int S.tsz_int (by omega) (by omega) rfl]
  refine sStore_blk (vs := [.int .i64 (txt l).length]) S.tsz_int (by decide) hk3 rfl rfl (by simp [encT]) (by simp; rfl) fun w4 hs4 hg4 hk4 => ?_
  rw [sFldA_ptr S.tfl_item_Item_D, sIdxA_arr (i := 1) (z := 1) S.tar_A3_int S.tsz_int (by omega) (by omega) rfl]
  refine sStore_blk (vs := [.int .i64 l.length]) S.tsz_int (by decide) hk4 rfl rfl (by simp [encT, splice]) (by simp; rfl) fun w5 hs5 hg5 hk5 => ?_
  have G5 := grown_trans hg4 hg5
  have E5 : Ext w w5 := E3.wr G5 (by rintro _ ⟨⟩; omega)
  have k2 : Blk w5 b2 (encT zeroIt) := ((hk2.ext e2).ext e3).wr G5 (by intro e; cases e; omega)
  rw [sLen_sl S.tel_L_int32 (hl.ext E5)]
  refine LoopS.intro (fun us w6 => Ext w w6 ∧ Blk w6 b2 (encT zeroIt) ∧ ∃ i : Nat, us = [.int .i64 i] ∧ i ≤ l.length ∧ Blk w6 b3 (encT ⟨0, 0, (txt l).length, l.length, nls (l.take i), 0, ⟨(txt l).toArray⟩⟩))
    (fun us _ => match us with | [.int _ a] => (l.length - a).toNat | _ => 0) ⟨E5, k2, 0, rfl, Nat.zero_le _, hk5⟩ ?_
  rintro us vs w6 ⟨E6, k2, i, rfl, hi, k3⟩
  unfold S.rope_pieceOf_L1
  rw [Go.Lift.hd, sBin_lss, sIf_dec]
  refine ⟨fun hlt => ?_, fun hge => ?_⟩
  · obtain ⟨r, hr⟩ : ∃ r, l[i]? = some r := ⟨_, List.getElem?_eq_getElem (by omega)⟩
    obtain ⟨b, of, hel, hc⟩ := (hl.ext E6).el hr
    have et : nls (l.take (i + 1)) = nls (l.take i) + nls [r] := by rw [take_succ_of hr, nls_append]
    have hle := nls_le (l.take i)
    rw [List.length_take] at hle
    rw [sIdxA_sl S.tel_L_int32 S.tsz_int32 (by omega) (hl.ext E6) hr rfl, hel, sLoad_cell (v := .int .i32 r) S.tcell_int32 (hc.fst rfl), sBin_eql, sIf_dec]
    refine ⟨fun h10 => ?_, fun h10 => ?_⟩
    · rw [sFldA_ptr S.tfl_item_Item_D, sIdxA_arr (i := 2) (z := 2) S.tar_A3_int S.tsz_int (by omega) (by omega) rfl, sLoad_cell (v := .int .i64 (nls (l.take i) : Nat)) S.tcell_int (k3.cells.at 4 rfl), sBin_add _ _ ⟨by omega, by omega⟩, sFldA_ptr S.tfl_item_Item_D, sIdxA_arr (i := 2) (z := 2) S.tar_A3_int S.tsz_int (by omega) (by omega) rfl]
      refine sStore_blk (vs := [.int .i64 ((nls (l.take i) : Nat) + 1)]) S.tsz_int (by decide) k3 rfl rfl (by simp [encT]) (by simp; rfl) fun w7 hs7 hg7 hk7 => ?_
      have hlt3 := k3.lt
      rw [sBin_add _ _ ⟨by omega, by omega⟩]
      refine ⟨⟨E6.wr hg7 (by rintro _ ⟨⟩; omega), k2.wr hg7 (by intro e; cases e; omega), i + 1, by simp, by omega, ?_⟩, by simp only []; omega⟩
      rw [et, show nls [r] = 1 by rw [h10]; rfl]
      exact hk7
    · rw [sBin_add _ _ ⟨by omega, by omega⟩]
      refine ⟨⟨E6, k2, i + 1, by simp, by omega, ?_⟩, by simp only []; omega⟩
      rw [et, show nls [r] = 0 by unfold nls; rw [List.countP_singleton]; rw [if_neg (by simpa using h10)]]
      exact k3
  · obtain rfl : i = l.length := by omega
    rw [List.take_length] at k3
    rw [sLoad_agg (cs := encT (itP l)) S.tagg_item_Item k3.cells rfl]
    refine sStore_blk S.tsz_item_Item (by decide) k2 (vs := encT (itP l)) rfl rfl (by simp [encT]) (encT_ok.one _) fun w7 hs7 hg7 hk7 => ?_
    rw [sLoad_agg (cs := encT (itP l)) S.tagg_item_Item hk7.cells rfl]
    exact ⟨rfl, E6.wr hg7 (by rintro _ ⟨⟩; omega), rfl⟩
end Go.Proofs.YtpjmmhbdondknaaDoor
