/- The document's decoding gives the same runes. Conditions: not too long. The document's decoding of a whole text. Conditions: not too long. The document's answers for ropes: inside, the byte of a place. Conditions: not too long. The document's answers for ropes: breaks ahead of a place. Conditions: not too long. The document's answers for ropes: runes in the place of some. Conditions: not too long. The document's answers for ropes: a text in the place of some. Conditions: not too long. Ropes: the place behind a break, of the program and of the document. Conditions: right pieces; not too long. -/
import Derived.Test.YtpjmmhbdondknaaDoorE4
namespace Go.Proofs.YtpjmmhbdondknaaDoor
open Go Go.Lift Go.RowKit Go.Txt

/-- So many bytes have the right form. -/
def Gd1 (bs : List UInt8) (n : Nat) : Prop := okR (numB (bs.take n)) ∧ sz (numB (bs.take n)) = n ∧ enc (numB (bs.take n)) = bs.take n
theorem Gd1.dl {bs : List UInt8} {n : Nat} (h : Gd1 bs n) : dl bs = ((numB (bs.take n)).toNat, n) := by
  obtain ⟨h1, h2, h3⟩ := h
  have := dl_enc h1 (bs.drop n)
  rw [h3, List.take_append_drop, h2] at this
  exact this
theorem gd1_of {bs : List UInt8} (hne : bs ≠ []) (h : ∀ m, 1 ≤ m → m ≤ 4 → m ≤ bs.length → ¬ Gd1 bs m) : dl bs = (65533, 1) := by
  rcases dl_prefix hne with e | ⟨hok, he⟩
  · exact e
  · exfalso
    have hw := dl_width bs hne
    have hs : sz (dl bs).1 = (dl bs).2 := by
      unfold sz; rw [he, List.length_take]; omega
    refine h _ hw.1 hw.2.2 hw.2.1 ?_
    unfold Gd1
    rw [← he, numB_enc hok]
    exact ⟨hok, hs, rfl⟩
abbrev encRu (r n : Int) : List Value := [.int .i32 r, .int .i64 n]
theorem encRu_one (r n : Int) : ∀ u ∈ encRu r n, u.oneCell' = true := fun u hu => by simp [encRu] at hu; rcases hu with rfl | rfl <;> rfl
theorem dstep_spec {w : World} {l : List UInt8} {p : Nat} (hp : p < l.length) (hn : l.length ≤ 10000000) : sCall Tryd.prog S.bodkinref01_Step.n [tv l, .int .i64 p] w fun u w' => Ext w w' ∧ u = .agg (encRu (dl (l.drop p)).1 (dl (l.drop p)).2).toArray := by
  refine S.bodkinref01_Step.call ?_
  unfold S.bodkinref01_Step
  have hne : l.drop p ≠ [] := fun h => by have := congrArg List.length h; rw [List.length_drop] at this; simp at this; omega
  have hld : (l.drop p).length = l.length - p := List.length_drop ..
  refine sAlloc_new S.tze_bodkinref01_Rune fun b4 w1 hb4 hs1 e1 hk4 => ?_
  rw [sBin_lss, sIf_neg (by omega), sLen_str tstr, sBin_geq, sIf_neg (by omega)]
  generalize hd : l.drop p = d at *
  have fin : ∀ (w2 : World), Ext w w2 → Blk w2 b4 (encRu 0 0) → (∀ m, 1 ≤ m → m ≤ 4 → m ≤ d.length → ¬ Gd1 d m) →
      sBuild Tryd.prog S.T.bodkinref01_Rune [(0, (.int .i32 65533)), (1, (.int .i64 1))] w2 fun x51 wa => sStore Tryd.prog S.T.bodkinref01_Rune (.pointer (some ⟨b4, 0, none⟩)) x51 wa fun wb => sLoad Tryd.prog S.T.bodkinref01_Rune (.pointer (some ⟨b4, 0, none⟩)) wb fun v w' => w' = wb ∧ Ext w wb ∧ v = .agg (encRu (dl d).1 (dl d).2).toArray := by
    intro w2 E2 k2 hno
    rw [sBuild_of (cs := encRu 65533 1) (lp := [(0, [.int .i32 65533]), (1, [.int .i64 1])]) S.tze_bodkinref01_Rune S.tpl_bodkinref01_Rune rfl rfl]
    refine sStore_blk S.tsz_bodkinref01_Rune (by decide) k2 (vs := encRu 65533 1) rfl rfl (by simp) (encRu_one _ _) fun w3 hs3 hg3 hk3 => ?_
    rw [sLoad_agg (cs := encRu 65533 1) S.tagg_bodkinref01_Rune hk3.cells rfl, gd1_of hne hno]
    exact ⟨rfl, E2.wr hg3 (by rintro _ ⟨⟩; omega), rfl⟩
  refine LoopS.ix (fun i us w2 => Ext w w2 ∧ Blk w2 b4 (encRu 0 0) ∧ ∃ n : Nat, i = 5 - n ∧ us = [.int .i64 n] ∧ 1 ≤ n ∧ n ≤ 5 ∧ ∀ m, 1 ≤ m → m < n → m ≤ d.length → ¬ Gd1 d m) ⟨_, e1, hk4, 1, rfl, rfl, by omega, by omega, fun m h1 h2 => by omega⟩ ?_
  rintro i us vs w2 ⟨E2, k2, n, rfl, rfl, hn1, hn5, hno⟩
  unfold S.bodkinref01_Step_L1
  rw [Go.Lift.hd, sBin_leq, sIf_dec]
  refine ⟨fun h4 => ?_, fun h4 => fin w2 E2 k2 fun m h1 h2 h3 => hno m h1 (by omega) h3⟩
  rw [sLen_str tstr, sBin_sub _ _ ⟨by omega, by omega⟩, sBin_leq, sIf_dec]
  refine ⟨fun hle => ?_, fun hle => fin w2 E2 k2 fun m h1 h2 h3 => hno m h1 (by omega) h3⟩
  rw [sBin_add _ _ ⟨by omega, by omega⟩, sSlice_str (lo := p) (hi := p + n) tstr rfl (by omega) (by omega) (by omega)]
  have hsub : (l.drop p).take (p + n - p) = d.take n := by rw [hd]; congr 1; omega
  rw [hsub]
  have htl : (d.take n).length = n := by rw [List.length_take]; omega
  refine (dnumber_spec (bs := d.take n) (by omega) (by omega)).mono ?_
  rintro u w3 ⟨rfl, rfl⟩
  refine JoinS.intro (fun us w' => Ext w w' ∧ Blk w' b4 (encRu 0 0) ∧ ∃ q : Bool, us = [.bool q] ∧ (q = true ↔ Gd1 d n)) ?_ ?_
  · refine (dsize_spec _).mono ?_
    rintro u w4 ⟨rfl, rfl⟩
    rw [sBin_eql, sIf_dec]
    by_cases hok : okR (numB (d.take n))
    · rw [if_pos hok]
      refine ⟨fun hsz => ?_, fun hsz => ⟨E2, k2, false, rfl, by simp only [Bool.false_eq_true, false_iff]; intro h; exact hsz (by rw [h.2.1])⟩⟩
      have hsn : sz (numB (d.take n)) = n := by omega
      rw [← hsz]
      refine (done_spec hok).mono ?_
      rintro u w5 ⟨e5, rfl⟩
      rw [sBin_strEq]
      refine ⟨E2.trans e5, k2.ext e5, _, rfl, ?_⟩
      rw [decide_eq_true_eq]
      exact ⟨fun h => ⟨hok, hsn, h⟩, fun h => h.2.2⟩
    · rw [if_neg hok]
      exact ⟨fun h => by omega, fun _ => ⟨E2, k2, false, rfl, by simp only [Bool.false_eq_true, false_iff]; intro h; exact hok h.1⟩⟩
  rintro us vs w4 ⟨E4, k4, q, rfl, hq⟩
  unfold S.bodkinref01_Step_J2
  rw [Go.Lift.hd, sIf_bool]
  refine ⟨fun hT => ?_, fun hF => ?_⟩
  · have hg := hq.1 hT
    have hdl := hg.dl
    have hro : 0 ≤ numB (d.take n) := by have := hg.1; unfold okR at this; omega
    rw [sBuild_of (cs := encRu (numB (d.take n)) n) (lp := [(0, [.int .i32 (numB (d.take n))]), (1, [.int .i64 n])]) S.tze_bodkinref01_Rune S.tpl_bodkinref01_Rune rfl rfl]
    refine sStore_blk S.tsz_bodkinref01_Rune (by decide) k4 (vs := encRu (numB (d.take n)) n) rfl rfl (by simp) (encRu_one _ _) fun w5 hs5 hg5 hk5 => ?_
    rw [sLoad_agg (cs := encRu (numB (d.take n)) n) S.tagg_bodkinref01_Rune hk5.cells rfl, hdl]
    refine ⟨rfl, E4.wr hg5 (by rintro _ ⟨⟩; omega), ?_⟩
    dsimp only
    rw [Int.toNat_of_nonneg hro]
  · have hng : ¬ Gd1 d n := fun h => by rw [hq.2 h] at hF; cases hF
    rw [sBin_add _ _ ⟨by omega, by omega⟩]
    refine ⟨5 - (n + 1), by omega, E4, k4, n + 1, rfl, by simp, by omega, by omega, fun m h1 h2 h3 => ?_⟩
    by_cases e : m = n
    · subst e; exact hng
    · exact hno m h1 (by omega) h3
end Go.Proofs.YtpjmmhbdondknaaDoor
namespace Go.Proofs.YtpjmmhbdondknaaDoor
open Go Go.Lift Go.RowKit Go.Txt

theorem ddecode_spec {w : World} (l : List UInt8) (hn : l.length ≤ 10000000) : sCall Tryd.prog S.bodkinref01_Decode.n [tv l] w fun u w' => Ext w w' ∧ Row w' w.heap.size S.T.int32 1 u encRn (runes l) := by
  refine S.bodkinref01_Decode.call ?_
  unfold S.bodkinref01_Decode
  have hmx : maxLen = 9223372036854775807 := rfl
  refine LoopS.ix (fun i us w2 => Ext w w2 ∧ ∃ (pos : Nat) (v : Value) (ds : List Int), i = l.length - pos ∧ us = [v, .int .i64 pos] ∧ pos ≤ l.length ∧ Row w2 w.heap.size S.T.int32 1 v encRn ds ∧ runes l = ds ++ runes (l.drop pos))
    ⟨l.length - 0, Ext.refl w, 0, _, [], rfl, rfl, by omega, Row.nil _ _ _ _ _, by simp⟩ ?_
  rintro i us vs w2 ⟨E2, pos, v, ds, rfl, rfl, hp, hv, hr⟩
  unfold S.bodkinref01_Decode_L1
  have hds : ds.length ≤ 10000000 := by
    have h1 := runes_len l
    rw [hr, List.length_append] at h1
    omega
  rw [Go.Lift.hd, Go.Lift.tl, Go.Lift.hd, sLen_str tstr, sBin_lss, sIf_dec]
  refine ⟨fun hlt => ?_, fun hge => ?_⟩
  · have hne : l.drop pos ≠ [] := fun h => by have := congrArg List.length h; rw [List.length_drop] at this; simp at this; omega
    have hw := dl_width _ hne
    rw [List.length_drop] at hw
    refine (dstep_spec (p := pos) (by omega) hn).mono ?_
    rintro u w3 ⟨e3, rfl⟩
    refine sVar (vs := encRu (dl (l.drop pos)).1 (dl (l.drop pos)).2) S.tze_bodkinref01_Rune S.tsz_bodkinref01_Rune (by decide) rfl rfl (encRu_one _ _) fun b5 w4 hb5 hs4 e4 hk5 => ?_
    rw [sFldA_ptr S.tfl_bodkinref01_Rune_R, sLoad_cell (v := .int .i32 (dl (l.drop pos)).1) S.tcell_int32 (hk5.cells.at 0 rfl)]
    refine sBuildSlice_own (n := 1) (enc := encRn) (xs := [((dl (l.drop pos)).1 : Int)]) (lp := [(0, encRn (dl (l.drop pos)).1)]) S.tel_L_int32 S.tsz_int32 rfl S.tze_int32 (by decide) (by decide) encRn_ok rfl rfl fun t w5 ht ho5 e5 hs5 => ?_
    have F5 := (e3.trans e4).trans e5
    refine sAppend_row S.tel_L_int32 S.tsz_int32 (by decide) S.tze_int32 rfl encRn_ok (hv.ext F5) (by have := (E2.trans F5).size; omega) (ho5.sl encRn_ok) (by simp; omega) (by rw [S.tby_int32]; simp; omega) fun v' w6 hv6 hg6 _ => ?_
    have k6 : Blk w6 b5 (encRu (dl (l.drop pos)).1 (dl (l.drop pos)).2) := (hk5.ext e5).wr hg6 (by
      intro e
      have h1 := hv.lt b5 e.symm
      have := e3.size
      omega)
    rw [sFldA_ptr S.tfl_bodkinref01_Rune_N, sLoad_cell (v := .int .i64 (dl (l.drop pos)).2) S.tcell_int (k6.cells.at 1 rfl), sBin_add _ _ ⟨by omega, by omega⟩]
    refine ⟨l.length - (pos + (dl (l.drop pos)).2), by omega, (E2.trans F5).wr hg6 (fun g hg => (hv.lt g hg).1), pos + (dl (l.drop pos)).2, v', ds ++ [((dl (l.drop pos)).1 : Int)], rfl, by simp, by omega, hv6, ?_⟩
    rw [hr, runes_cons hne, List.drop_drop, List.append_assoc]
    rfl
  · obtain rfl : pos = l.length := by omega
    rw [List.drop_length, runes_nil, List.append_nil] at hr
    rw [hr]
    exact ⟨E2, hv⟩
end Go.Proofs.YtpjmmhbdondknaaDoor
namespace Go.Proofs.YtpjmmhbdondknaaDoor
open Go Go.Lift Go.RowKit Go.Txt

theorem dinside_spec {w : World} (n a b : Int) : sCall Tryd.prog S.bodkinref07_Inside.n [.int .i64 n, .int .i64 a, .int .i64 b] w fun u w' => w' = w ∧ ∃ q : Bool, u = .bool q ∧ (q = true ↔ 0 ≤ a ∧ a ≤ b ∧ b ≤ n) := by
  refine S.bodkinref07_Inside.call ?_
  unfold S.bodkinref07_Inside
  rw [sBin_geq, sIf_dec]
  refine ⟨fun h1 => ?_, fun h1 => ⟨rfl, false, rfl, by simp only [Bool.false_eq_true, false_iff]; omega⟩⟩
  rw [sBin_geq, sIf_dec]
  refine ⟨fun h2 => ?_, fun h2 => ⟨rfl, false, rfl, by simp only [Bool.false_eq_true, false_iff]; omega⟩⟩
  rw [sBin_leq]
  exact ⟨rfl, _, rfl, by rw [decide_eq_true_eq]; omega⟩
end Go.Proofs.YtpjmmhbdondknaaDoor
namespace Go.Proofs.YtpjmmhbdondknaaDoor
open Go Go.Lift Go.RowKit Go.Txt

end Go.Proofs.YtpjmmhbdondknaaDoor
namespace Go.Proofs.YtpjmmhbdondknaaDoor
open Go Go.Lift Go.RowKit Go.Txt

abbrev encP2 (a b : Int) : List Value := [.int .i64 a, .int .i64 b]
theorem dput_spec {w : World} {v m : Value} {l ms : List Int} {A B : Nat} (hl : Sl w v 1 encRn l) (hm : Sl w m 1 encRn ms) (hn : l.length ≤ 1000000) (hn2 : ms.length ≤ 1000000) (hab : A ≤ B) (hb : B ≤ l.length) :
    sCall Tryd.prog S.bodkinref07_Put.n [v, .agg (encP2 A B).toArray, m] w fun u w' => Ext w w' ∧ Row w' w.heap.size S.T.int32 1 u encRn (l.take A ++ ms ++ l.drop B) := by
  refine S.bodkinref07_Put.call ?_
  unfold S.bodkinref07_Put
  have hmx : maxLen = 9223372036854775807 := rfl
  refine sBox_new (cs := encP2 A B) rfl fun b4 w1 hb4 hs1 e1 hk4 => ?_
  have hcap := sl_cap hl
  have l1 := hl.ext e1
  rw [sIdxA_arr (i := 0) (z := 0) S.tar_A2_int S.tsz_int (by omega) (by omega) rfl, sLoad_cell (v := .int .i64 A) S.tcell_int (hk4.cells.at 0 rfl), sSlice_h (hi := A) S.tel_L_int32 S.tsz_int32 (by omega) l1 rfl (by omega)]
  have p1 : Sl w1 (slV v 1 0 A (capV v)) 1 encRn (l.take A) := by
    simpa using l1.part (lo := 0) (hi := A) (mx := capV v) (by omega) (by omega) (by omega) (Nat.le_refl _)
  refine sAppend_row S.tel_L_int32 S.tsz_int32 (by decide) S.tze_int32 rfl encRn_ok (Row.nil w1 w1.heap.size _ _ _) (Nat.le_refl _) p1 (by simp; omega) (by rw [S.tby_int32]; simp; omega) fun v1 w2 hv1 hg2 _ => ?_
  rw [List.nil_append] at hv1
  have e2 : Ext w1 w2 := (Ext.refl w1).wr hg2 (fun g hg => by cases hg)
  refine sAppend_row S.tel_L_int32 S.tsz_int32 (by decide) S.tze_int32 rfl encRn_ok hv1 e2.size (hm.ext (e1.trans e2)) (by rw [List.length_take]; omega) (by rw [S.tby_int32, List.length_take]; omega) fun v2 w3 hv2 hg3 _ => ?_
  have e3 : Ext w1 w3 := e2.wr hg3 (fun g hg => (hv1.lt g hg).1)
  rw [sIdxA_arr (i := 1) (z := 1) S.tar_A2_int S.tsz_int (by omega) (by omega) rfl, sLoad_cell (v := .int .i64 B) S.tcell_int ((hk4.ext e3).cells.at 1 rfl), sSlice_l (lo := B) S.tel_L_int32 S.tsz_int32 (by omega) (l1.ext e3) rfl (by omega)]
  have p2 : Sl w3 (slV v 1 B l.length (capV v)) 1 encRn (l.drop B) := by
    simpa using (l1.ext e3).part (lo := B) (hi := l.length) (mx := capV v) (by omega) (by omega) (by omega) (Nat.le_refl _)
  refine sAppend_row S.tel_L_int32 S.tsz_int32 (by decide) S.tze_int32 rfl encRn_ok hv2 e3.size p2 (by rw [List.length_append, List.length_take, List.length_drop]; omega) (by rw [S.tby_int32, List.length_append, List.length_take, List.length_drop]; omega) fun v3 w4 hv3 hg4 _ => ?_
  exact ⟨e1.trans (e3.wr hg4 (fun g hg => (hv2.lt g hg).1)), hv3.mono (by have := e1.size; omega)⟩
end Go.Proofs.YtpjmmhbdondknaaDoor
namespace Go.Proofs.YtpjmmhbdondknaaDoor
open Go Go.Lift Go.RowKit Go.Txt

end Go.Proofs.YtpjmmhbdondknaaDoor
namespace Go.Proofs.YtpjmmhbdondknaaDoor
open Go Go.Lift Go.RowKit Go.Txt

theorem nls_mono (l : List Int) {a b : Nat} (h : a ≤ b) : nls (l.take a) ≤ nls (l.take b) := by
  have : l.take b = l.take a ++ (l.take b).drop a := by
    conv => lhs; rw [← List.take_append_drop a (l.take b)]
    rw [List.take_take, Nat.min_eq_left h]
  rw [this, nls_append]; omega
theorem nls_all (l : List Int) (a : Nat) : nls (l.take a) ≤ nls l := by
  rcases Nat.le_total a l.length with h | h
  · have := nls_mono l h; rwa [List.take_length] at this
  · rw [List.take_of_length_le h]; exact Nat.le_refl _
theorem nls_succ {l : List Int} {i : Nat} {r : Int} (h : l[i]? = some r) : nls (l.take (i + 1)) = nls (l.take i) + (if r = 10 then 1 else 0) := by
  rw [take_succ_of h, nls_append]
  congr 1
  unfold nls
  rw [List.countP_singleton]
  by_cases e : r = 10 <;> simp [e]
/-- The answers for the place behind a break. -/
def Bhd (l : List Int) (k m e : Int) : Prop :=
  ((0 ≤ k ∧ k ≤ nls l) ∧ e = 0 ∧ ∃ M : Nat, m = M ∧ M ≤ l.length ∧ (nls (l.take M) : Int) = k ∧ ∀ j, j < M → (nls (l.take j) : Int) < k) ∨ (¬ (0 ≤ k ∧ k ≤ nls l) ∧ m = 0 ∧ e = 1)
theorem Bhd.det {l : List Int} {k m e m' e' : Int} (h : Bhd l k m e) (h' : Bhd l k m' e') : m = m' ∧ e = e' := by
  rcases h with ⟨h1, rfl, M, rfl, h2, h3, h4⟩ | ⟨h1, rfl, rfl⟩
  · rcases h' with ⟨_, rfl, M', rfl, g2, g3, g4⟩ | ⟨h2, _, _⟩
    · refine ⟨?_, rfl⟩
      rcases Nat.lt_trichotomy M M' with h | h | h
      · have := g4 M h; omega
      · rw [h]
      · have := h4 M' h; omega
    · exact absurd h1 h2
  · rcases h' with ⟨h2, _⟩ | ⟨_, rfl, rfl⟩
    · exact absurd h2 h1
    · exact ⟨rfl, rfl⟩
end Go.Proofs.YtpjmmhbdondknaaDoor
