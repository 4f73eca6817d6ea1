/- Rows of a text: plain laws; the program's rows, spans, points and places. Conditions: right pieces. -/
import Derived.Test.YtplpkeoakclobaaDoorE5
namespace Go.Proofs.YtplpkeoakclobaaDoor
open Go Go.Lift Go.RowKit Go.Txt

theorem sMax_int {P : Program} {w : World} {K : K1} {k : IntKind} {ts : List TypeId} {ty : TypeId} (a b : Int) : sBuiltin P .max ts ty [.int k a, .int k b] w K = K (.int k (if a < b then b else a)) w := by
  simp [sBuiltin, after, Builtin.max_, Builtin.max2]
/-- The place behind a break. -/
noncomputable def beh (l : List Int) (k : Nat) : Nat := least fun M => nls (l.take M) = k
theorem nls_one (l : List Int) (n : Nat) : nls (l.take (n + 1)) ≤ nls (l.take n) + 1 := by
  cases h : l[n]? with
  | none =>
    have := List.getElem?_eq_none_iff.1 h
    rw [List.take_of_length_le (by omega), List.take_of_length_le this]
    omega
  | some r => rw [nls_succ h]; split <;> omega
theorem nls_hit (l : List Int) {k : Nat} : ∀ n, k ≤ nls (l.take n) → ∃ M, nls (l.take M) = k
  | 0, h => ⟨0, by simp [nls] at h ⊢; omega⟩
  | n + 1, h => by
    rcases Nat.lt_or_ge (nls (l.take n)) k with h1 | h1
    · have := nls_one l n
      exact ⟨n + 1, by omega⟩
    · exact nls_hit l n h1
theorem beh_is {l : List Int} {k : Nat} (h : k ≤ nls l) : nls (l.take (beh l k)) = k :=
  least_is (p := fun M => nls (l.take M) = k) (nls_hit l l.length (by rwa [List.take_length]))
theorem beh_low {l : List Int} {k a : Nat} (h : nls (l.take a) = k) : beh l k ≤ a := least_le (p := fun M => nls (l.take M) = k) h
theorem beh_bef {l : List Int} {k j : Nat} (h : k ≤ nls l) (hj : j < beh l k) : nls (l.take j) < k := by
  have h1 := nls_mono l (Nat.le_of_lt hj)
  rw [beh_is h] at h1
  rcases Nat.lt_or_ge (nls (l.take j)) k with h2 | h2
  · exact h2
  · have := beh_low (l := l) (k := k) (a := j) (by omega)
    omega
theorem beh_le {l : List Int} {k : Nat} (h : k ≤ nls l) : beh l k ≤ l.length := by
  rcases Nat.lt_or_ge l.length (beh l k) with h1 | h1
  · have := beh_bef h h1
    have h2 := beh_is h
    rw [List.take_of_length_le (by omega)] at h2
    rw [List.take_length] at this
    omega
  · exact h1
theorem beh_uniq {l : List Int} {k M : Nat} (h1 : nls (l.take M) = k) (h2 : ∀ j, j < M → nls (l.take j) < k) : M = beh l k := by
  have h3 := beh_low h1
  rcases Nat.lt_or_ge (beh l k) M with h4 | h4
  · have := h2 _ h4
    have := beh_is (l := l) (k := k) (by have := nls_all l M; omega)
    omega
  · omega
theorem beh_zero (l : List Int) : beh l 0 = 0 := (beh_uniq (l := l) (k := 0) (M := 0) (by simp [nls]) (fun j hj => by omega)).symm
theorem beh_next {l : List Int} {i : Nat} (h : l[i]? = some 10) : beh l (nls (l.take i) + 1) = i + 1 := by
  refine (beh_uniq (by rw [nls_succ h, if_pos rfl]) fun j hj => ?_).symm
  have := nls_mono l (show j ≤ i by omega)
  omega
theorem lt_beh {l : List Int} {k a : Nat} (h : k ≤ nls l) (ha : nls (l.take a) < k) : a < beh l k := by
  rcases Nat.lt_or_ge a (beh l k) with h1 | h1
  · exact h1
  · have := nls_mono l h1
    rw [beh_is h] at this
    omega
/-- Where a row ends. -/
noncomputable def endL (l : List Int) (k : Nat) : Nat := if k < nls l then beh l (k + 1) - 1 else l.length
theorem beh_end {l : List Int} {k : Nat} (h : k ≤ nls l) : beh l k ≤ endL l k ∧ endL l k ≤ l.length := by
  unfold endL
  split
  · rename_i h1
    have h2 := lt_beh (l := l) (k := k + 1) (a := beh l k) h1 (by rw [beh_is h]; omega)
    have h3 := beh_le (l := l) (k := k + 1) h1
    omega
  · exact ⟨beh_le h, Nat.le_refl _⟩
theorem at_end {l : List Int} {a : Nat} (h : a ≤ l.length) : beh l (nls (l.take a)) ≤ a ∧ a ≤ endL l (nls (l.take a)) := by
  refine ⟨beh_low rfl, ?_⟩
  unfold endL
  split
  · rename_i h1
    have := lt_beh (l := l) (k := nls (l.take a) + 1) (a := a) h1 (by omega)
    omega
  · exact h
/-- Places of a row have that row. -/
theorem nls_in {l : List Int} {k a : Nat} (h : k ≤ nls l) (h1 : beh l k ≤ a) (h2 : a ≤ endL l k) : nls (l.take a) = k := by
  have h3 := nls_mono l h1
  rw [beh_is h] at h3
  unfold endL at h2
  split at h2
  · rename_i h4
    rcases Nat.lt_or_ge (nls (l.take a)) (k + 1) with h5 | h5
    · omega
    · have h6 := lt_beh (l := l) (k := k + 1) (a := beh l k) h4 (by rw [beh_is h]; omega)
      have := beh_bef (l := l) (k := k + 1) (j := a) h4 (by omega)
      omega
  · have := nls_all l a
    omega
theorem Bhd.val {l : List Int} {k : Nat} {m e : Int} (h : Bhd l k m e) (hk : k ≤ nls l) : m = beh l k ∧ e = 0 := by
  refine h.det (.inl ⟨⟨by omega, by omega⟩, rfl, beh l k, rfl, beh_le hk, by rw [beh_is hk], fun j hj => ?_⟩)
  have := beh_bef hk hj
  omega
/-- Is it a point of the text? -/
def IsP (l : List Int) (r c : Int) : Prop := (0 ≤ r ∧ r ≤ nls l) ∧ 0 ≤ c ∧ c ≤ (endL l r.toNat : Int) - beh l r.toNat
noncomputable def ptR (l : List Int) (a : Nat) : Int := nls (l.take a)
noncomputable def ptC (l : List Int) (a : Nat) : Int := (a : Int) - beh l (nls (l.take a))
theorem pt_is {l : List Int} {a : Nat} (h : a ≤ l.length) : IsP l (ptR l a) (ptC l a) := by
  have h1 := at_end h
  have h2 := nls_all l a
  unfold IsP ptR ptC
  rw [Int.toNat_natCast]
  omega
noncomputable def clR (l : List Int) (r _c : Int) : Int := if r < 0 then 0 else if r > nls l then nls l else r
noncomputable def clC (l : List Int) (r c : Int) : Int := if r < 0 then 0 else if r > nls l then ptC l l.length else if c < 0 then 0 else if c > (endL l r.toNat : Int) - beh l r.toNat then (endL l r.toNat : Int) - beh l r.toNat else c
theorem ptR_all (l : List Int) : ptR l l.length = nls l := by unfold ptR; rw [List.take_length]
theorem cl_is (l : List Int) (r c : Int) : IsP l (clR l r c) (clC l r c) := by
  unfold clR clC
  by_cases h1 : r < 0
  · have := beh_end (l := l) (k := 0) (Nat.zero_le _)
    rw [if_pos h1, if_pos h1]
    refine ⟨⟨by omega, by omega⟩, by omega, ?_⟩
    show (0 : Int) ≤ (endL l 0 : Int) - beh l 0
    omega
  · rw [if_neg h1, if_neg h1]
    by_cases h2 : r > nls l
    · rw [if_pos h2, if_pos h2]
      have := pt_is (l := l) (Nat.le_refl l.length)
      rwa [ptR_all] at this
    · rw [if_neg h2, if_neg h2]
      have := beh_end (l := l) (k := r.toNat) (by omega)
      refine ⟨⟨by omega, by omega⟩, ?_, ?_⟩ <;> (split <;> try split) <;> omega
theorem cl_same {l : List Int} {r c : Int} (h : IsP l r c) : clR l r c = r ∧ clC l r c = c := by
  obtain ⟨⟨h1, h2⟩, h3, h4⟩ := h
  unfold clR clC
  rw [if_neg (by omega), if_neg (by omega), if_neg (by omega), if_neg (by omega), if_neg (by omega), if_neg (by omega)]
  exact ⟨rfl, rfl⟩
theorem cl_iff (l : List Int) (r c : Int) : (clR l r c = r ∧ clC l r c = c) ↔ IsP l r c :=
  ⟨fun h => by have := cl_is l r c; rwa [h.1, h.2] at this, cl_same⟩

theorem encP2_one (a b : Int) : ∀ u ∈ encP2 a b, u.oneCell' = true := fun u hu => by simp [encP2] at hu; rcases hu with rfl | rfl <;> rfl
theorem Rp.ptr {w : World} {v : Value} {ps : List (List Int)} (h : Rp w v ps) : ∃ a, v = .pointer a := by
  rcases h with ⟨rfl, _⟩ | ⟨b, t, rfl, _⟩ <;> exact ⟨_, rfl⟩
theorem lrows_spec {w : World} {v : Value} {ps : List (List Int)} (h : Rp w v ps) (hp : RpOk ps) : sCall Tryd.prog S.lines_Rows.n [v] w fun u w' => Ext w w' ∧ u = .int .i64 ((nls ps.flatten : Int) + 1) := by
  refine S.lines_Rows.call ?_
  unfold S.lines_Rows
  have := nls_le ps.flatten
  have := hp.le
  refine (rbreaks_spec h hp).mono ?_
  rintro u w1 ⟨e1, rfl⟩
  rw [sBin_add _ _ ⟨by omega, by omega⟩]
  exact ⟨e1, rfl⟩
theorem behind1_spec {w : World} {b k : Nat} {v : Value} {ps : List (List Int)} (hk : Cells w b 0 [v]) (h : Rp w v ps) (hp : RpOk ps) (hn : k ≤ nls ps.flatten) :
    sDyn Tryd.prog (.func (.func S.lines_Span_1.n) #[] #[.pointer (some ⟨b, 0, none⟩)]) [.int .i64 k] w fun u w' => Ext w w' ∧ u = .int .i64 (beh ps.flatten k) := by
  rw [sDyn_func]
  refine S.lines_Span_1.call ?_
  unfold S.lines_Span_1
  obtain ⟨a, rfl⟩ := h.ptr
  rw [sLoad_cell S.tcell_P_rope_Rope (hk.fst rfl)]
  refine (rbehind_spec (k := k) h hp).mono ?_
  rintro u w1 ⟨e1, m, e, hm, rfl⟩
  obtain ⟨rfl, rfl⟩ := hm.val hn
  rw [sExtract_0, sExtract_1]
  exact ⟨e1, rfl⟩
theorem lspan_spec {w : World} {v : Value} {ps : List (List Int)} {row : Int} (h : Rp w v ps) (hp : RpOk ps) : sCall Tryd.prog S.lines_Span.n [v, .int .i64 row] w fun u w' => Ext w w' ∧
    (((0 ≤ row ∧ row ≤ nls ps.flatten) ∧ u = .tuple #[.agg (encP2 (beh ps.flatten row.toNat) (endL ps.flatten row.toNat)).toArray, .int .i64 0]) ∨ (¬ (0 ≤ row ∧ row ≤ nls ps.flatten) ∧ u = .tuple #[.agg (encP2 0 0).toArray, .int .i64 1])) := by
  refine S.lines_Span.call ?_
  unfold S.lines_Span
  have hnl := nls_le ps.flatten
  have hle := hp.le
  obtain ⟨a, rfl⟩ := h.ptr
  refine sBox_new (cs := [.pointer a]) rfl fun b2 w1 hb2 hs1 e1 hk2 => ?_
  refine sAlloc_new S.tze_api_Span fun b4 w2 hb4 hs2 e2 hk4 => ?_
  have E2 := e1.trans e2
  have k2 := hk2.ext e2
  have l2 := hk2.lt
  have s1 := e1.size
  refine JoinS.intro (fun us w' => Ext w2 w' ∧ ∃ q : Bool, us = [.bool q] ∧ (q = true ↔ ¬ (0 ≤ row ∧ row ≤ nls ps.flatten))) ?_ ?_
  · rw [sBin_lss, sIf_dec]
    refine ⟨fun h => ⟨Ext.refl _, true, rfl, by simp only [true_iff]; omega⟩, fun h0 => ?_⟩
    rw [sLoad_cell S.tcell_P_rope_Rope (k2.cells.fst rfl)]
    refine (lrows_spec (h.ext E2) hp).mono ?_
    rintro u w3 ⟨e3, rfl⟩
    rw [sBin_geq]
    exact ⟨e3, _, rfl, by rw [decide_eq_true_eq]; omega⟩
  · rintro us vs w3 ⟨e3, q, rfl, hq⟩
    unfold S.lines_Span_J1
    have E3 := E2.trans e3
    have k23 := k2.ext e3
    have k43 := hk4.ext e3
    rw [Go.Lift.hd, sIf_bool]
    refine ⟨fun hT => ?_, fun hF => ?_⟩
    · rw [sBuild_of (cs := encP2 0 0) (lp := []) S.tze_api_Span S.tpl_api_Span rfl rfl]
      refine sStore_blk S.tsz_api_Span (by decide) k43 (vs := encP2 0 0) rfl rfl (by simp) (encP2_one _ _) fun w4 hs4 hg4 hk4' => ?_
      rw [sLoad_agg (cs := encP2 0 0) S.tagg_api_Span hk4'.cells rfl]
      exact ⟨rfl, E3.wr hg4 (by rintro _ ⟨⟩; omega), .inr ⟨hq.1 hT, rfl⟩⟩
    · have hin : 0 ≤ row ∧ row ≤ nls ps.flatten := by
        rcases Decidable.em (0 ≤ row ∧ row ≤ nls ps.flatten) with h1 | h1
        · exact h1
        · rw [hq.2 h1] at hF; cases hF
      obtain ⟨k, rfl⟩ : ∃ k : Nat, row = k := ⟨row.toNat, by omega⟩
      rw [Int.toNat_natCast]
      have hk : k ≤ nls ps.flatten := by omega
      have hbe := beh_end hk
      rw [sFunc_mk, sLoad_cell S.tcell_P_rope_Rope (k23.cells.fst rfl)]
      refine (rbreaks_spec (h.ext E3) hp).mono ?_
      rintro u w4 ⟨e4, rfl⟩
      have E4 := E3.trans e4
      have k24 := k23.ext e4
      have k44 := k43.ext e4
      rw [sBin_eql, sIf_dec]
      refine ⟨fun heq => ?_, fun hne => ?_⟩
      · have hend : endL ps.flatten k = ps.flatten.length := by unfold endL; rw [if_neg (by omega)]
        have C0 : Wr b4 w4 w4.drew := grown_drew w4 _
        refine DrawS.intro (fun w' => Wr b4 w4 w') C0 ?_
        rw [stillC_eq (fun w1 h1 K => sLoad_cell S.tcell_P_rope_Rope ((k24.cells.wr h1 (by intro e; cases e; omega)).fst rfl)) C0]
        have ed := (Ext.refl w4).drew
        refine sDyn_mono ?_ (behind1_spec (k := k) (k24.ext ed).cells (h.ext (E4.trans ed)) hp hk)
        rintro u w5 ⟨e5, rfl⟩
        refine ⟨grown_of_ext (ed.trans e5) _, ?_⟩
        refine (rrunes_spec (h.ext ((E4.trans ed).trans e5)) hp).mono ?_
        rintro u w6 ⟨e6, rfl⟩
        have e46 := (ed.trans e5).trans e6
        have C6 : Wr b4 w4 w6 := grown_of_ext e46 _
        refine ⟨C6, ?_⟩
        rw [stillC_eq (fun w1 h1 K => sBuild_of (cs := encP2 (beh ps.flatten k) ps.flatten.length) (lp := [(0, [.int .i64 (beh ps.flatten k)]), (1, [.int .i64 ps.flatten.length])]) S.tze_api_Span S.tpl_api_Span rfl rfl) C6]
        refine sStore_blk S.tsz_api_Span (by decide) (k44.ext e46) (vs := encP2 (beh ps.flatten k) ps.flatten.length) rfl rfl (by simp) (encP2_one _ _) fun w7 hs7 hg7 hk7 => ?_
        refine ⟨grown_trans C6 hg7, ?_⟩
        rw [sLoad_agg (cs := encP2 (beh ps.flatten k) ps.flatten.length) S.tagg_api_Span hk7.cells rfl]
        exact ⟨rfl, (E4.trans e46).wr hg7 (by rintro _ ⟨⟩; omega), .inl ⟨hin, by rw [hend]⟩⟩
      · have hk1 : k + 1 ≤ nls ps.flatten := by omega
        have hend : endL ps.flatten k = beh ps.flatten (k + 1) - 1 := by unfold endL; rw [if_pos (by omega)]
        have hpos : 0 < beh ps.flatten (k + 1) := by
          have := lt_beh (l := ps.flatten) (k := k + 1) (a := 0) hk1 (by simp [nls])
          omega
        refine sDyn_mono ?_ (behind1_spec (k := k) k24.cells (h.ext E4) hp hk)
        rintro u w5 ⟨e5, rfl⟩
        rw [sBin_add _ _ ⟨by omega, by omega⟩]
        refine sDyn_mono ?_ (behind1_spec (k := k + 1) (k24.ext e5).cells (h.ext (E4.trans e5)) hp hk1)
        rintro u w6 ⟨e6, rfl⟩
        have e46 := e5.trans e6
        have hb1 := beh_le hk1
        rw [sBin_sub _ _ ⟨by omega, by omega⟩]
        have hz : (beh ps.flatten (k + 1) : Int) - 1 = (endL ps.flatten k : Int) := by rw [hend]; omega
        rw [hz, sBuild_of (cs := encP2 (beh ps.flatten k) (endL ps.flatten k)) (lp := [(0, [.int .i64 (beh ps.flatten k)]), (1, [.int .i64 (endL ps.flatten k)])]) S.tze_api_Span S.tpl_api_Span rfl rfl]
        refine sStore_blk S.tsz_api_Span (by decide) (k44.ext e46) (vs := encP2 (beh ps.flatten k) (endL ps.flatten k)) rfl rfl (by simp) (encP2_one _ _) fun w7 hs7 hg7 hk7 => ?_
        rw [sLoad_agg (cs := encP2 (beh ps.flatten k) (endL ps.flatten k)) S.tagg_api_Span hk7.cells rfl]
        exact ⟨rfl, (E4.trans e46).wr hg7 (by rintro _ ⟨⟩; omega), .inl ⟨hin, rfl⟩⟩
theorem ltext_spec {w : World} {v : Value} {ps : List (List Int)} {row : Int} (h : Rp w v ps) (hp : RpOk ps) : sCall Tryd.prog S.lines_Text.n [v, .int .i64 row] w fun u w' => Ext w w' ∧
    (((0 ≤ row ∧ row ≤ nls ps.flatten) ∧ u = .tuple #[tv (txt ((ps.flatten.drop (beh ps.flatten row.toNat)).take (endL ps.flatten row.toNat - beh ps.flatten row.toNat))), .int .i64 0]) ∨ (¬ (0 ≤ row ∧ row ≤ nls ps.flatten) ∧ u = .tuple #[tv [], .int .i64 1])) := by
  refine S.lines_Text.call ?_
  unfold S.lines_Text
  refine (lspan_spec (row := row) h hp).mono ?_
  rintro u w1 ⟨e1, hu⟩
  rcases hu with ⟨hin, rfl⟩ | ⟨hout, rfl⟩
  · rw [sExtract_0, sExtract_1]
    refine sVar (vs := encP2 (beh ps.flatten row.toNat) (endL ps.flatten row.toNat)) S.tze_api_Span S.tsz_api_Span (by decide) rfl rfl (encP2_one _ _) fun b6 w2 hb6 hs2 e2 hk6 => ?_
    rw [sBin_neq, sIf_not]
    refine ⟨fun h => absurd rfl h, fun _ => ?_⟩
    rw [sFldA_ptr S.tfl_api_Span_From, sLoad_cell (v := .int .i64 (beh ps.flatten row.toNat)) S.tcell_int (hk6.cells.at 0 rfl), sFldA_ptr S.tfl_api_Span_To, sLoad_cell (v := .int .i64 (endL ps.flatten row.toNat)) S.tcell_int (hk6.cells.at 1 rfl)]
    have hbe := beh_end (l := ps.flatten) (k := row.toNat) (by omega)
    refine (rslice_spec (a := beh ps.flatten row.toNat) (b := endL ps.flatten row.toNat) (h.ext (e1.trans e2)) hp).mono ?_
    rintro u w3 ⟨e3, hu⟩
    rcases hu with ⟨h1, _⟩ | ⟨_, rfl⟩
    · exact absurd ⟨by omega, by omega, by omega⟩ h1
    · rw [sExtract_0, sExtract_1]
      exact ⟨(e1.trans e2).trans e3, .inl ⟨hin, rfl⟩⟩
  · rw [sExtract_0, sExtract_1]
    refine sVar (vs := encP2 0 0) S.tze_api_Span S.tsz_api_Span (by decide) rfl rfl (encP2_one _ _) fun b6 w2 hb6 hs2 e2 hk6 => ?_
    rw [sBin_neq, sIf_not]
    exact ⟨fun _ => ⟨e1.trans e2, .inr ⟨hout, rfl⟩⟩, fun h => absurd h (by decide)⟩
end Go.Proofs.YtplpkeoakclobaaDoor
