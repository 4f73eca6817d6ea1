/- Ropes: places. Conditions: right pieces. Ropes: the byte of a place, a rune, breaks ahead; the place of a byte; the place behind a break. Conditions: right pieces. Ropes: the place of a byte; the place behind a break. Conditions: right pieces. -/
import Derived.Test.YtpjmmhbdondknaaDoorQ2
namespace Go.Proofs.YtpjmmhbdondknaaDoor
open Go Go.Lift Go.RowKit Go.Txt

/-- A spot: what is ahead of a piece, that piece, how many of its bytes are ahead. -/
def encSo (s : Su) (x : It) (b : Int) : List Value := encS s ++ (encT x ++ [.int .i64 b])
theorem encSo_one (s : Su) (x : It) (b : Int) : ∀ u ∈ encSo s x b, u.oneCell' = true := fun u hu => by
  rcases List.mem_append.1 hu with h | h
  · exact encS_one s u h
  · rcases List.mem_append.1 h with h | h
    · exact encT_ok.one x u h
    · simp at h; subst h; rfl
/-- The piece of a number; behind all, none. -/
def pN (ps : List (List Int)) (n : Nat) : List Int := (ps[n]?).getD []
theorem rfind_spec' {w : World} {v : Value} {ps : List (List Int)} {dim at_ bias : Int} (h : Rp w v ps) (hp : RpOk ps) : sCall Tryd.prog S.rope_Rope_find.n [v, .int .i64 dim, .int .i64 at_, .int .i64 bias] w fun u w' => Ext w w' ∧
    ((¬ Ask (ps.map itP) dim at_ bias ∧ u = .tuple #[.agg (encSo zeroS zeroIt 0).toArray, .pointer none, .int .i64 1]) ∨
     (Ask (ps.map itP) dim at_ bias ∧ ∃ (n bc vis : Nat) (t : Value), Fnd (ps.map itP) dim at_ bias n ∧ n ≤ ps.length ∧ u = .tuple #[.agg (encSo (sP (ps.take n)) (itP (pN ps n)) 0).toArray, .pointer (some ⟨bc, 0, none⟩), .int .i64 0] ∧ w.heap.size ≤ bc ∧ Blk w' bc (encCu t n (sP (ps.take n)) vis) ∧ Tp w t (ps.map itP))) := by
  refine S.rope_Rope_find.call ?_
  unfold S.rope_Rope_find
  refine sAlloc_new S.tze_rope_spot fun b8 w1 hb8 hs1 e1 hk8 => ?_
  refine (rtree_spec0 h e1).mono ?_
  rintro t w1' ⟨rfl, ht0⟩
  have ht := ht0.ext e1
  refine (snew_spec ht).mono ?_
  rintro c w2 ⟨e2, bc, rfl, hbc, hkc⟩
  have E2 := e1.trans e2
  have s1 := e1.size
  refine (sto_spec (dim := dim) (v := at_) (bias := bias) hkc (ht.ext e2) (itPs_ok hp.ok) hp.len).mono ?_
  rintro u w3 hu
  rcases hu with ⟨hna, e3, rfl⟩ | ⟨ha, hg3, rfl, n, vis, hf, hkc3⟩
  · rw [sBin_neq, sIf_not]
    refine ⟨fun _ => ?_, fun h => absurd h (by decide)⟩
    rw [sBuild_of (cs := encSo zeroS zeroIt 0) (lp := []) S.tze_rope_spot S.tpl_rope_spot rfl rfl]
    refine sStore_blk S.tsz_rope_spot (by decide) ((hk8.ext e2).ext e3) (vs := encSo zeroS zeroIt 0) rfl rfl (by simp) (encSo_one _ _ _) fun w4 hs4 hg4 hk4 => ?_
    rw [sLoad_agg (cs := encSo zeroS zeroIt 0) S.tagg_rope_spot hk4.cells rfl]
    exact ⟨rfl, (E2.trans e3).wr hg4 (by rintro _ ⟨⟩; omega), .inl ⟨hna, rfl⟩⟩
  · rw [sBin_neq, sIf_not]
    refine ⟨fun h => absurd rfl h, fun _ => ?_⟩
    have s2 := e2.size
    have hn : n ≤ ps.length := by have := hf.le; rwa [List.length_map] at this
    have e3 : Ext w1' w3 := e2.wr hg3 (by rintro _ ⟨⟩; omega)
    have E3 : Ext w w3 := e1.trans e3
    have ht3 := ht.ext e3
    rw [hp.sums hn] at hkc3
    have hk83 : Blk w3 b8 _ := (hk8.ext e2).wr hg3 (by intro e; cases e; omega)
    refine (sitem_spec hkc3 ht3 hp.len).mono ?_
    rintro u w4 ⟨e4, hu⟩
    obtain ⟨x, q, hx, rfl⟩ : ∃ (x : It) (q : Bool), x = itP (pN ps n) ∧ u = .tuple #[.agg (encT x).toArray, .bool q] := by
      rcases hu with ⟨hle, rfl⟩ | ⟨x, hx, rfl⟩
      · refine ⟨_, _, ?_, rfl⟩
        rw [List.length_map] at hle
        unfold pN
        rw [List.getElem?_eq_none hle]
        rfl
      · refine ⟨x, _, ?_, rfl⟩
        rw [List.getElem?_map] at hx
        obtain ⟨p, hpn, rfl⟩ := Option.map_eq_some_iff.1 hx
        unfold pN
        rw [hpn]
        rfl
    rw [sExtract_0, sExtract_1]
    refine sVar S.tze_item_Item S.tsz_item_Item (by decide) rfl rfl (encT_ok.one x) fun b13 w5 hb13 hs5 e5 hk13 => ?_
    have F5 := e4.trans e5
    have s4 := e4.size
    have l8 := hk83.lt
    have lc := hkc3.lt
    have C0 : Wr b8 w5 w5.drew := grown_drew w5 _
    refine DrawS.intro (fun w' => Wr b8 w5 w') C0 ?_
    rw [stillC_eq (fun w1 h1 K => sLoad_agg (cs := encT x) S.tagg_item_Item (hk13.cells.wr h1 (by intro e; cases e; omega)) rfl) C0]
    refine (sstart_spec ((hkc3.ext F5).ext (Ext.refl w5).drew)).mono ?_
    rintro u w6 ⟨e6, rfl⟩
    have C6 : Wr b8 w5 w6 := grown_of_ext ((Ext.refl w5).drew.trans e6) _
    refine ⟨C6, ?_⟩
    rw [stillC_eq (fun w1 h1 K => sBuild_of (cs := encSo (sP (ps.take n)) x 0) (lp := [(0, encS (sP (ps.take n))), (1, encT x)]) S.tze_rope_spot S.tpl_rope_spot rfl rfl) C6]
    refine sStore_blk S.tsz_rope_spot (by decide) ((hk83.ext F5).ext ((Ext.refl w5).drew.trans e6)) (vs := encSo (sP (ps.take n)) x 0) rfl rfl (by simp) (encSo_one _ _ _) fun w7 hs7 hg7 hk7 => ?_
    refine ⟨grown_trans C6 hg7, ?_⟩
    rw [sLoad_agg (cs := encSo (sP (ps.take n)) x 0) S.tagg_rope_spot hk7.cells rfl]
    have E6 : Ext w w6 := (E3.trans F5).trans ((Ext.refl w5).drew.trans e6)
    have E7 : Ext w w7 := E6.wr hg7 (by rintro _ ⟨⟩; omega)
    refine ⟨rfl, E7, .inr ⟨ha, n, bc, vis, t, hf, hn, by rw [hx], by omega, ?_, ht0⟩⟩
    exact ((hkc3.ext F5).ext ((Ext.refl w5).drew.trans e6)).wr hg7 (by intro e; cases e; omega)

/-! ## Runes of a text, one by one -/
theorem txt_at {l : List Int} (h : ∀ r ∈ l, okR r) {k : Nat} {r : Int} (hk : l[k]? = some r) : dl ((txt l).drop (txt (l.take k)).length) = (r.toNat, sz r) ∧ (txt (l.take (k + 1))).length = (txt (l.take k)).length + sz r ∧ (txt (l.take k)).length < (txt l).length := by
  have hlt := (List.getElem?_eq_some_iff.1 hk).1
  have e : l = l.take k ++ (r :: l.drop (k + 1)) := by
    have : l.drop k = r :: l.drop (k + 1) := by rw [List.drop_eq_getElem_cons hlt]; congr 1; exact (List.getElem?_eq_some_iff.1 hk).2
    rw [← this, List.take_append_drop]
  have hs := enc_len r
  refine ⟨?_, ?_, ?_⟩
  · have e2 : txt l = txt (l.take k) ++ (enc r ++ txt (l.drop (k + 1))) := by
      conv => lhs; rw [e]
      rw [txt_append, txt_cons]
    rw [e2, List.drop_left]
    exact dl_enc (h r (List.mem_of_getElem? hk)) _
  · rw [take_succ_of hk, txt_append, List.length_append]; unfold sz; rw [txt_cons, txt_nil, List.append_nil]
  · have e2 : (txt l).length = (txt (l.take k)).length + (sz r + (txt (l.drop (k + 1))).length) := by
      conv => lhs; rw [e]
      rw [txt_append, txt_cons, List.length_append, List.length_append]; rfl
    omega
/-- A place within a piece, or at the end. -/
structure Plc (ps : List (List Int)) (at_ : Int) (n k : Nat) : Prop where
  le : n ≤ ps.length
  eq : at_ = (ps.take n).flatten.length + k
  kl : k ≤ (pN ps n).length
  lt : n < ps.length → k < (pN ps n).length
theorem pN_some {ps : List (List Int)} {n : Nat} {p : List Int} (h : ps[n]? = some p) : pN ps n = p := by unfold pN; rw [h]; rfl
theorem pN_none {ps : List (List Int)} : pN ps ps.length = [] := by unfold pN; rw [List.getElem?_eq_none (Nat.le_refl _)]; rfl
theorem pN_ok {ps : List (List Int)} (hp : RpOk ps) (n : Nat) : ∀ r ∈ pN ps n, okR r := by
  cases h : ps[n]? with
  | none => unfold pN; rw [h]; simp
  | some p => rw [pN_some h]; exact (hp.ok p (List.mem_of_getElem? h)).ok
theorem pN_len {ps : List (List Int)} (hp : RpOk ps) (n : Nat) : (pN ps n).length ≤ 16 := by
  cases h : ps[n]? with
  | none => unfold pN; rw [h]; simp
  | some p => rw [pN_some h]; exact (hp.ok p (List.mem_of_getElem? h)).le
theorem flat_split {ps : List (List Int)} {n : Nat} (h : n ≤ ps.length) : ps.flatten = (ps.take n).flatten ++ (pN ps n ++ (ps.drop (n + 1)).flatten) := by
  rcases Nat.lt_or_ge n ps.length with hlt | hge
  · have hg : ps[n]? = some ps[n] := List.getElem?_eq_getElem hlt
    rw [pN_some hg, ← List.flatten_cons, ← List.flatten_append, ← List.drop_eq_getElem_cons hlt, List.take_append_drop]
  · obtain rfl : n = ps.length := by omega
    rw [pN_none, List.take_length, List.drop_eq_nil_of_le (by omega)]
    simp
theorem Plc.take {ps : List (List Int)} {at_ : Int} {n k : Nat} (h : Plc ps at_ n k) : 0 ≤ at_ ∧ at_ ≤ ps.flatten.length ∧ ps.flatten.take at_.toNat = (ps.take n).flatten ++ (pN ps n).take k ∧ (ps.flatten[at_.toNat]? = (pN ps n)[k]?) := by
  have he := h.eq
  have hs := flat_split h.le
  have hl := congrArg List.length hs
  rw [List.length_append, List.length_append] at hl
  have hk := h.kl
  have ha : at_.toNat = (ps.take n).flatten.length + k := by omega
  refine ⟨by omega, by omega, ?_, ?_⟩
  · rw [ha]
    conv => lhs; rw [hs]
    rw [List.take_length_add_append, List.take_append_of_le_length hk]
  · rw [ha]
    conv => lhs; rw [hs]
    rw [List.getElem?_append_right (Nat.le_add_right _ _), Nat.add_sub_cancel_left]
    rcases Nat.lt_or_ge n ps.length with hlt | hge
    · exact List.getElem?_append_left (h.lt hlt)
    · obtain rfl : n = ps.length := by have := h.le; omega
      rw [List.drop_eq_nil_of_le (by omega), List.flatten_nil, List.append_nil]
theorem fnd_plc {ps : List (List Int)} {at_ : Int} {n : Nat} (hp : RpOk ps) (h0 : 0 ≤ at_) (h1 : at_ ≤ ps.flatten.length) (hf : Fnd (ps.map itP) 1 at_ 1 n) (hn : n ≤ ps.length) : ∃ k, Plc ps at_ n k := by
  have hz : ∀ i, i ≤ ps.length → szA (ps.map itP) 1 i = (ps.take i).flatten.length := fun i hi => by
    unfold szA; rw [hp.sums hi]; rfl
  have hlow : ((ps.take n).flatten.length : Int) ≤ at_ := by
    rcases Nat.eq_zero_or_pos n with rfl | hpos
    · simpa using h0
    · have := hf.no (n - 1) (by omega)
      rw [Nat.sub_add_cancel hpos, hz n hn] at this
      unfold Rch at this
      omega
  rcases Nat.lt_or_ge n ps.length with hlt | hge
  · have hg : ps[n]? = some ps[n] := List.getElem?_eq_getElem hlt
    have hy := hf.yes (by rw [List.length_map]; exact hlt)
    rw [hz (n + 1) (by omega), take_succ_of hg, List.flatten_append, List.length_append] at hy
    rw [← pN_some hg] at hy
    simp only [List.flatten_cons, List.flatten_nil, List.append_nil] at hy
    unfold Rch at hy
    exact ⟨(at_ - (ps.take n).flatten.length).toNat, hn, by omega, by omega, fun _ => by omega⟩
  · obtain rfl : n = ps.length := by omega
    rw [List.take_length] at hlow
    exact ⟨0, Nat.le_refl _, by rw [List.take_length]; omega, by omega, fun h => by omega⟩
theorem ask_place {ps : List (List Int)} {at_ bias : Int} (hp : RpOk ps) (hb : bias = 0 ∨ bias = 1) : Ask (ps.map itP) 1 at_ bias ↔ 0 ≤ at_ ∧ at_ ≤ ps.flatten.length := by
  unfold Ask
  rw [hp.sum]
  have hz : szD (sP ps) 1 = ps.flatten.length := rfl
  rw [hz]
  constructor
  · rintro ⟨_, _, h1, h2, _⟩
    exact ⟨h1, h2⟩
  · rintro ⟨h1, h2⟩
    exact ⟨by decide, by decide, h1, h2, hb⟩
theorem rplace_spec {w : World} {v : Value} {ps : List (List Int)} {at_ : Int} (h : Rp w v ps) (hp : RpOk ps) : sCall Tryd.prog S.rope_Rope_place.n [v, .int .i64 at_] w fun u w' => Ext w w' ∧
    ((¬ (0 ≤ at_ ∧ at_ ≤ ps.flatten.length) ∧ u = .tuple #[.agg (encSo zeroS zeroIt 0).toArray, .int .i64 1]) ∨ ∃ n k : Nat, Plc ps at_ n k ∧ u = .tuple #[.agg (encSo (sP (ps.take n)) (itP (pN ps n)) (txt ((pN ps n).take k)).length).toArray, .int .i64 0]) := by
  refine S.rope_Rope_place.call ?_
  unfold S.rope_Rope_place
  refine sAlloc_new S.tze_rope_spot fun b4 w1 hb4 hs1 e1 hk4 => ?_
  refine (rfind_spec' (dim := 1) (at_ := at_) (bias := 1) (h.ext e1) hp).mono ?_
  rintro u w2 ⟨e2, hu⟩
  have E2 := e1.trans e2
  have s1 := e1.size
  have s2 := e2.size
  rcases hu with ⟨hna, rfl⟩ | ⟨ha, n, bc, vis, t, hf, hn, rfl, _, _, _⟩
  · rw [sExtract_0, sExtract_1, sExtract_2]
    refine sVar (vs := encSo zeroS zeroIt 0) S.tze_rope_spot S.tsz_rope_spot (by decide) rfl rfl (encSo_one _ _ _) fun b6 w3 hb6 hs3 e3 hk6 => ?_
    rw [sBin_neq, sIf_not]
    refine ⟨fun _ => ?_, fun h => absurd h (by decide)⟩
    rw [sBuild_of (cs := encSo zeroS zeroIt 0) (lp := []) S.tze_rope_spot S.tpl_rope_spot rfl rfl]
    refine sStore_blk S.tsz_rope_spot (by decide) ((hk4.ext e2).ext e3) (vs := encSo zeroS zeroIt 0) rfl rfl (by simp) (encSo_one _ _ _) fun w4 hs4 hg4 hk4 => ?_
    rw [sLoad_agg (cs := encSo zeroS zeroIt 0) S.tagg_rope_spot hk4.cells rfl]
    exact ⟨rfl, (E2.trans e3).wr hg4 (by rintro _ ⟨⟩; omega), .inl ⟨fun h => hna ((ask_place hp (.inr rfl)).2 h), rfl⟩⟩
  · obtain ⟨h0, h1⟩ := (ask_place hp (.inr rfl)).1 ha
    obtain ⟨k, hk⟩ := fnd_plc hp h0 h1 hf hn
    have hpl := pN_len hp n
    have hpo := pN_ok hp n
    have htl := txt_len (pN ps n)
    have hkeq := hk.eq
    have hkl := hk.kl
    have hle := hp.le
    have hpre : (ps.take n).flatten.length ≤ 20000 := by
      have := congrArg List.length (flat_split hn)
      rw [List.length_append] at this
      omega
    rw [sExtract_0, sExtract_1, sExtract_2]
    refine sVar (vs := encSo (sP (ps.take n)) (itP (pN ps n)) 0) S.tze_rope_spot S.tsz_rope_spot (by decide) rfl rfl (encSo_one _ _ _) fun b6 w3 hb6 hs3 e3 hk6 => ?_
    have E3 := E2.trans e3
    rw [sBin_neq, sIf_not]
    refine ⟨fun h => absurd rfl h, fun _ => ?_⟩
    rw [sFldA_ptr S.tfl_rope_spot_before, sFldA_ptr S.tfl_item_Sum_D, sIdxA_arr (i := 1) (z := 1) S.tar_A3_int S.tsz_int (by omega) (by omega) rfl, sLoad_cell (v := .int .i64 (ps.take n).flatten.length) S.tcell_int (hk6.cells.at 2 rfl),
      sFldA_ptr S.tfl_rope_spot_piece, sFldA_ptr S.tfl_item_Item_Text, sLoad_cell (v := tv (txt (pN ps n))) S.tcell_string (hk6.cells.at 12 rfl), sLen_str tstr, sFldA_ptr S.tfl_rope_spot_bytes]
    refine sStore_blk (vs := [.int .i64 (txt (pN ps n)).length]) S.tsz_int (by decide) hk6 rfl rfl (by simp [encSo, encS, encT]) (by simp; rfl) fun w4 hs4 hg4 hk4' => ?_
    have k4 : Blk w4 b4 _ := ((hk4.ext e2).ext e3).wr hg4 (by intro e; cases e; omega)
    have E4 : Ext w w4 := E3.wr hg4 (by rintro _ ⟨⟩; omega)
    have hk4'' : Blk w4 b6 (encSo (sP (ps.take n)) (itP (pN ps n)) (txt (pN ps n)).length) := hk4'
    refine JoinS.intro (fun us w' => Ext w w' ∧ Blk w' b4 (encSo zeroS zeroIt 0) ∧ Blk w' b6 (encSo (sP (ps.take n)) (itP (pN ps n)) (txt ((pN ps n).take k)).length)) ?_ ?_
    · rw [sFldA_ptr S.tfl_rope_spot_piece, sFldA_ptr S.tfl_item_Item_Text, sLoad_cell (v := tv (txt (pN ps n))) S.tcell_string (hk4''.cells.at 12 rfl)]
      refine sRange_str tstr fun bi w5 hbi hs5 e5 hi5 => ?_
      refine LoopS.ix (fun i us w6 => Ext w w6 ∧ Blk w6 b4 (encSo zeroS zeroIt 0) ∧ Blk w6 b6 (encSo (sP (ps.take n)) (itP (pN ps n)) (txt (pN ps n)).length) ∧ ∃ j : Nat, i = (pN ps n).length - j ∧ us = [.int .i64 ((ps.take n).flatten.length + j : Nat)] ∧ j ≤ k ∧ Iter w6 bi (txt (pN ps n)) (txt ((pN ps n).take j)).length)
        ⟨_, E4.trans e5, k4.ext e5, hk4''.ext e5, 0, rfl, rfl, by omega, hi5⟩ ?_
      rintro i us vs w6 ⟨E6, k4, k6, j, rfl, rfl, hj, hit⟩
      unfold S.rope_Rope_place_L2
      have l4 := k4.lt
      have l6 := k6.lt
      have li := hit.lt
      have s4 := E4.size
      rw [Go.Lift.hd]
      by_cases hlt : j < (pN ps n).length
      · obtain ⟨r, hr⟩ : ∃ r, (pN ps n)[j]? = some r := ⟨_, List.getElem?_eq_getElem hlt⟩
        obtain ⟨t1, t2, t3⟩ := txt_at hpo hr
        refine sNext_str hit t3 fun w7 hs7 hg7 hit7 => ?_
        have hne4 : some b4 ≠ some bi := by intro e; cases e; have := hk4''.lt; omega
        have hne6 : some b6 ≠ some bi := by intro e; cases e; have := hk4''.lt; omega
        have k47 := k4.wr hg7 hne4
        have k67 := k6.wr hg7 hne6
        have E7 : Ext w w7 := E6.wr hg7 (by rintro _ ⟨⟩; omega)
        rw [sExtract_0, sIf_true, sExtract_1, sBin_eql, sIf_dec]
        refine ⟨fun heq => ?_, fun hne => ?_⟩
        · obtain rfl : j = k := by omega
          rw [sFldA_ptr S.tfl_rope_spot_bytes]
          refine sStore_blk (vs := [.int .i64 (txt ((pN ps n).take j)).length]) S.tsz_int (by decide) k67 rfl rfl (by simp [encSo, encS, encT]) (by simp; rfl) fun w8 hs8 hg8 hk8 => ?_
          exact ⟨E7.wr hg8 (by rintro _ ⟨⟩; omega), k47.wr hg8 (by intro e; cases e; omega), hk8⟩
        · rw [sBin_add _ _ ⟨by omega, by omega⟩]
          rw [t1, ← t2] at hit7
          exact ⟨(pN ps n).length - (j + 1), by omega, E7, k47, k67, j + 1, rfl, by simp; omega, by omega, hit7⟩
      · have hjl : j = (pN ps n).length := by omega
        have hkj : k = (pN ps n).length := by omega
        rw [hjl, List.take_length] at hit
        rw [sNext_end hit (by omega), sExtract_0, sIf_false]
        exact ⟨E6, k4, by rw [hkj, List.take_length]; exact k6⟩
    rintro us vs w6 ⟨E6, k4, k6⟩
    unfold S.rope_Rope_place_J1
    rw [sLoad_agg (cs := encSo (sP (ps.take n)) (itP (pN ps n)) (txt ((pN ps n).take k)).length) S.tagg_rope_spot k6.cells rfl]
    refine sStore_blk S.tsz_rope_spot (by decide) k4 (vs := encSo (sP (ps.take n)) (itP (pN ps n)) (txt ((pN ps n).take k)).length) rfl rfl (by simp [encSo, encS, encT]) (encSo_one _ _ _) fun w7 hs7 hg7 hk7 => ?_
    rw [sLoad_agg (cs := encSo (sP (ps.take n)) (itP (pN ps n)) (txt ((pN ps n).take k)).length) S.tagg_rope_spot hk7.cells rfl]
    exact ⟨rfl, E6.wr hg7 (by rintro _ ⟨⟩; omega), .inr ⟨n, k, hk, rfl⟩⟩
end Go.Proofs.YtpjmmhbdondknaaDoor
namespace Go.Proofs.YtpjmmhbdondknaaDoor
open Go Go.Lift Go.RowKit Go.Txt

theorem pre_le {ps : List (List Int)} (hp : RpOk ps) {n : Nat} (hn : n ≤ ps.length) : (ps.take n).flatten.length ≤ 20000 ∧ (txt (ps.take n).flatten).length ≤ 80000 ∧ nls (ps.take n).flatten ≤ 20000 := by
  have h1 := congrArg List.length (flat_split hn)
  rw [List.length_append] at h1
  have h2 := hp.le
  have h3 := txt_len (ps.take n).flatten
  have h4 := nls_le (ps.take n).flatten
  omega
theorem rbyteat_spec {w : World} {v : Value} {ps : List (List Int)} {at_ : Int} (h : Rp w v ps) (hp : RpOk ps) : sCall Tryd.prog S.rope_Rope_ByteAt.n [v, .int .i64 at_] w fun u w' => Ext w w' ∧
    ((¬ (0 ≤ at_ ∧ at_ ≤ ps.flatten.length) ∧ u = .tuple #[.int .i64 0, .int .i64 1]) ∨ ((0 ≤ at_ ∧ at_ ≤ ps.flatten.length) ∧ u = .tuple #[.int .i64 (txt (ps.flatten.take at_.toNat)).length, .int .i64 0])) := by
  refine S.rope_Rope_ByteAt.call ?_
  unfold S.rope_Rope_ByteAt
  refine (rplace_spec h hp).mono ?_
  rintro u w1 ⟨e1, hu⟩
  rcases hu with ⟨hna, rfl⟩ | ⟨n, k, hk, rfl⟩
  · rw [sExtract_0, sExtract_1]
    refine sVar (vs := encSo zeroS zeroIt 0) S.tze_rope_spot S.tsz_rope_spot (by decide) rfl rfl (encSo_one _ _ _) fun b6 w3 hb6 hs3 e3 hk6 => ?_
    rw [sBin_neq, sIf_not]
    exact ⟨fun _ => ⟨e1.trans e3, .inl ⟨hna, rfl⟩⟩, fun h => absurd h (by decide)⟩
  · rw [sExtract_0, sExtract_1]
    refine sVar (vs := encSo (sP (ps.take n)) (itP (pN ps n)) (txt ((pN ps n).take k)).length) S.tze_rope_spot S.tsz_rope_spot (by decide) rfl rfl (encSo_one _ _ _) fun b6 w3 hb6 hs3 e3 hk6 => ?_
    rw [sBin_neq, sIf_not]
    refine ⟨fun h => absurd rfl h, fun _ => ?_⟩
    obtain ⟨t0, t1, t2, t3⟩ := hk.take
    obtain ⟨p1, p2, p3⟩ := pre_le hp hk.le
    have q1 := txt_len ((pN ps n).take k)
    have q2 := pN_len hp n
    have q3 : ((pN ps n).take k).length ≤ 16 := by rw [List.length_take]; omega
    rw [sFldA_ptr S.tfl_rope_spot_before, sFldA_ptr S.tfl_item_Sum_D, sIdxA_arr (i := 0) (z := 0) S.tar_A3_int S.tsz_int (by omega) (by omega) rfl, sLoad_cell (v := .int .i64 (txt (ps.take n).flatten).length) S.tcell_int (hk6.cells.at 1 rfl),
      sFldA_ptr S.tfl_rope_spot_bytes, sLoad_cell (v := .int .i64 (txt ((pN ps n).take k)).length) S.tcell_int (hk6.cells.at 13 rfl), sBin_add _ _ ⟨by omega, by omega⟩]
    refine ⟨e1.trans e3, .inr ⟨⟨t0, t1⟩, ?_⟩⟩
    rw [t2, txt_append, List.length_append, Int.natCast_add]
theorem ten_ne {n : Nat} (h1 : 128 ≤ n) (h2 : n < 256) : (UInt8.ofNat n == (10 : UInt8)) = false := by
  rw [beq_eq_false_iff_ne]
  intro e
  have := congrArg UInt8.toNat e
  rw [ofNat_toNat h2] at this
  simp at this
  omega
theorem count_enc {r : Int} (hr : okR r) : (enc r).count 10 = if r == 10 then 1 else 0 := by
  have h' := hr
  unfold okR at h'
  rcases enc_cases hr with ⟨h1, e⟩ | ⟨h1, h2, e⟩ | ⟨h1, h2, e⟩ | ⟨h1, e⟩
  · rw [e, List.count_singleton]
    have : (UInt8.ofNat r.toNat == (10 : UInt8)) = (r == 10) := by
      rw [Bool.eq_iff_iff, beq_iff_eq, beq_iff_eq]
      constructor
      · intro e2
        have := congrArg UInt8.toNat e2
        rw [ofNat_toNat (by omega)] at this
        simp at this
        omega
      · rintro rfl; rfl
    rw [this]
  · rw [e, if_neg (by simp; omega)]
    simp only [List.count_cons, List.count_nil, ten_ne (show 128 ≤ 192 + r.toNat / 64 by omega) (by omega), ten_ne (show 128 ≤ 128 + r.toNat % 64 by omega) (by omega)]
    rfl
  · rw [e, if_neg (by simp; omega)]
    simp only [List.count_cons, List.count_nil, ten_ne (show 128 ≤ 224 + r.toNat / 4096 by omega) (by omega), ten_ne (show 128 ≤ 128 + r.toNat / 64 % 64 by omega) (by omega), ten_ne (show 128 ≤ 128 + r.toNat % 64 by omega) (by omega)]
    rfl
  · rw [e, if_neg (by simp; omega)]
    simp only [List.count_cons, List.count_nil, ten_ne (show 128 ≤ 240 + r.toNat / 262144 by omega) (by omega), ten_ne (show 128 ≤ 128 + r.toNat / 4096 % 64 by omega) (by omega), ten_ne (show 128 ≤ 128 + r.toNat / 64 % 64 by omega) (by omega), ten_ne (show 128 ≤ 128 + r.toNat % 64 by omega) (by omega)]
    rfl
/-- Breaks in bytes. -/
theorem count_txt {l : List Int} (h : ∀ r ∈ l, okR r) : Lib.countByte (txt l) 10 = nls l := by
  induction l with
  | nil => rfl
  | cons r l ih =>
    have hr := h r (List.mem_cons_self ..)
    have ih := ih fun x hx => h x (List.mem_cons_of_mem _ hx)
    unfold Lib.countByte at ih ⊢
    rw [txt_cons, List.count_append, ih, count_enc hr]
    unfold nls
    rw [List.countP_cons]
    omega
theorem txt_take (p : List Int) (k : Nat) : (txt p).take (txt (p.take k)).length = txt (p.take k) := by
  conv => lhs; arg 2; rw [← List.take_append_drop k p]
  rw [txt_append, List.take_left]
end Go.Proofs.YtpjmmhbdondknaaDoor
namespace Go.Proofs.YtpjmmhbdondknaaDoor
open Go Go.Lift Go.RowKit Go.Txt

theorem txt_mono (l : List Int) {a b : Nat} (h : a ≤ b) : (txt (l.take a)).length ≤ (txt (l.take b)).length := by
  have e : l.take a = (l.take b).take a := by rw [List.take_take, Nat.min_eq_left h]
  rw [e]
  have := congrArg List.length (txt_take (l.take b) a)
  rw [List.length_take] at this
  omega
theorem flat_take {ps : List (List Int)} {n j : Nat} (hn : n ≤ ps.length) (hj : j ≤ (pN ps n).length) : ps.flatten.take ((ps.take n).flatten.length + j) = (ps.take n).flatten ++ (pN ps n).take j := by
  conv => lhs; rw [flat_split hn]
  rw [List.take_length_add_append, List.take_append_of_le_length hj]
theorem ask_dim {ps : List (List Int)} {v bias : Int} (hp : RpOk ps) {dim : Int} (h0 : 0 ≤ dim) (h2 : dim ≤ 2) (hb : bias = 0 ∨ bias = 1) : Ask (ps.map itP) dim v bias ↔ 0 ≤ v ∧ v ≤ szD (sP ps) dim := by
  unfold Ask
  rw [hp.sum]
  constructor
  · rintro ⟨_, _, h1, h2, _⟩; exact ⟨h1, h2⟩
  · rintro ⟨h1, h3⟩; exact ⟨h0, by omega, h1, h3, hb⟩
/-- The answers for the place of a byte. -/
def RunAt (l : List Int) (at_ : Int) (m e : Int) : Prop :=
  (∃ k : Nat, k ≤ l.length ∧ at_ = (txt (l.take k)).length ∧ m = k ∧ e = 0) ∨
  (0 ≤ at_ ∧ at_ ≤ (txt l).length ∧ (∀ k : Nat, k ≤ l.length → at_ ≠ (txt (l.take k)).length) ∧ m = 0 ∧ e = 70) ∨
  (¬ (0 ≤ at_ ∧ at_ ≤ (txt l).length) ∧ m = 0 ∧ e = 1)
end Go.Proofs.YtpjmmhbdondknaaDoor
