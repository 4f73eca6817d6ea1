/- Ranges that can be folded, of the program and of the document; those around a row. Conditions: the tables of widths and of sizes in memory; right pieces. -/
import Derived.Test.YtplpkeoakclobaaDoorK1
import Derived.Test.YtplpkeoakclobaaDoorRw
namespace Go.Proofs.YtplpkeoakclobaaDoor
open Go Go.Lift Go.RowKit Go.Txt

/-- Rows behind one, up to another one, all deeper or empty. -/
def Dp (ns : List Int) (n : Int) (row to : Nat) : Prop := ∀ i m, row < i → i ≤ to → ns[i]? = some m → ¬ (0 ≤ m ∧ m ≤ n)
def gd (ns : List Int) (row to : Nat) : Prop := ∃ n, ns[row]? = some n ∧ 0 ≤ n ∧ (∃ m, ns[to]? = some m ∧ 0 ≤ m) ∧ Dp ns n row to
structure IsLast (ns : List Int) (row m : Nat) : Prop where
  ge : row ≤ m
  lt : m < ns.length
  is : m = row ∨ (row < m ∧ gd ns row m)
  mx : ∀ to, m < to → to < ns.length → ¬ gd ns row to
theorem IsLast.uniq {ns : List Int} {row m m' : Nat} (h : IsLast ns row m) (h' : IsLast ns row m') : m = m' := by
  rcases Nat.lt_trichotomy m m' with h1 | h1 | h1
  · rcases h'.is with h2 | ⟨_, h2⟩
    · have := h.ge; omega
    · exact absurd h2 (h.mx m' h1 h'.lt)
  · exact h1
  · rcases h.is with h2 | ⟨_, h2⟩
    · have := h'.ge; omega
    · exact absurd h2 (h'.mx m h1 h.lt)
theorem IsLast.ex {ns : List Int} {row : Nat} (hr : row < ns.length) : ∃ m, IsLast ns row m := by
  have key : ∀ n, row < n → n ≤ ns.length → ∃ m, row ≤ m ∧ m < n ∧ (m = row ∨ (row < m ∧ gd ns row m)) ∧ ∀ to, m < to → to < n → ¬ gd ns row to := by
    intro n
    induction n with
    | zero => intro h; omega
    | succ n ih =>
      intro h1 h2
      by_cases hn : n = row
      · exact ⟨row, Nat.le_refl _, by omega, .inl rfl, fun to h3 h4 => by omega⟩
      · obtain ⟨m, a, b, c, d⟩ := ih (by omega) (by omega)
        by_cases hg : gd ns row n
        · exact ⟨n, by omega, by omega, .inr ⟨by omega, hg⟩, fun to h3 h4 => by omega⟩
        · refine ⟨m, a, by omega, c, fun to h3 h4 => ?_⟩
          by_cases he : to = n
          · subst he; exact hg
          · exact d to h3 (by omega)
  obtain ⟨m, a, b, c, d⟩ := key ns.length hr (Nat.le_refl _)
  exact ⟨m, a, b, c, d⟩
noncomputable def lastI (ns : List Int) (row : Nat) : Nat := open Classical in if h : ∃ m, IsLast ns row m then h.choose else row
theorem lastI_is {ns : List Int} {row : Nat} (hr : row < ns.length) : IsLast ns row (lastI ns row) := by
  have h := IsLast.ex hr
  unfold lastI
  rw [dif_pos h]
  exact h.choose_spec
theorem lastI_eq {ns : List Int} {row m : Nat} (h : IsLast ns row m) : lastI ns row = m := (lastI_is (by have := h.ge; have := h.lt; omega)).uniq h
abbrev Rg4 := Int × Int × Int × Int
abbrev encG (x : Rg4) : List Value := [.int .i64 x.1, .int .i64 x.2.1, .int .i64 x.2.2.1, .int .i64 x.2.2.2]
theorem encG_one (x : Rg4) : ∀ u ∈ encG x, u.oneCell' = true := fun u hu => by simp [encG] at hu; rcases hu with rfl | rfl | rfl | rfl <;> rfl
theorem encG_ok : Enc encG 4 := ⟨fun _ => rfl, fun x u hu => encG_one x u hu⟩
theorem encG_inj {x y : Rg4} : encG x = encG y ↔ x = y := by
  obtain ⟨a, b, c, d⟩ := x
  obtain ⟨a', b', c', d'⟩ := y
  constructor
  · intro h
    simp only [encG, List.cons.injEq, Value.int.injEq, true_and, and_true] at h
    obtain ⟨rfl, rfl, rfl, rfl⟩ := h
    rfl
  · rintro h; rw [h]
noncomputable def mkR (l : List Int) (ns : List Int) (row : Nat) : Rg4 := (row, lastI ns row, endL l row, endL l (lastI ns row))
noncomputable def rngs (l ns : List Int) (n : Nat) : List Rg4 := (List.range n).filterMap fun r => if r < lastI ns r then some (mkR l ns r) else none
theorem rngs_succ (l ns : List Int) (n : Nat) : rngs l ns (n + 1) = rngs l ns n ++ (if n < lastI ns n then [mkR l ns n] else []) := by
  unfold rngs
  rw [List.range_succ, List.filterMap_append]
  congr 1
  by_cases h : n < lastI ns n <;> simp [h]
theorem rngs_len (l ns : List Int) (n : Nat) : (rngs l ns n).length ≤ n := by
  have := List.length_filterMap_le (fun r => if r < lastI ns r then some (mkR l ns r) else none) (List.range n)
  rw [List.length_range] at this
  exact this
theorem rngs_mem {l ns : List Int} {n : Nat} {x : Rg4} (h : x ∈ rngs l ns n) : ∃ r, r < n ∧ r < lastI ns r ∧ x = mkR l ns r := by
  obtain ⟨r, hr, he⟩ := List.mem_filterMap.1 h
  rw [List.mem_range] at hr
  by_cases h2 : r < lastI ns r
  · rw [if_pos h2] at he
    exact ⟨r, hr, h2, (Option.some.inj he).symm⟩
  · rw [if_neg h2] at he
    cases he
theorem olast_spec {w : World} {v : Value} {ns : List Int} {row : Nat} (hl : Sl w v 1 encZ ns) (hn : ns.length ≤ 1000000) (hb : ∀ x ∈ ns, x = -1 ∨ 0 ≤ x) (hr : row < ns.length) : sCall Tryd.prog S.outline_last.n [v, .int .i64 row] w fun u w' => Ext w w' ∧ u = .int .i64 (lastI ns row) := by
  refine S.outline_last.call ?_
  unfold S.outline_last
  obtain ⟨n, hnr⟩ : ∃ n, ns[row]? = some n := ⟨_, List.getElem?_eq_getElem hr⟩
  rw [sBin_add _ _ ⟨by omega, by omega⟩]
  refine LoopS.intro (fun us w1 => Ext w w1 ∧ ∃ (i m : Nat), us = [.int .i64 m, .int .i64 i] ∧ row < i ∧ i ≤ ns.length ∧ row ≤ m ∧ m < i ∧ (m = row ∨ (row < m ∧ gd ns row m)) ∧ (∀ to, m < to → to < i → ¬ gd ns row to) ∧ (∀ j x, row < j → j < i → ns[j]? = some x → ¬ (0 ≤ x ∧ x ≤ n)) ∧ (i = row + 1 ∨ 0 ≤ n))
    (fun us _ => match us with | [_, .int _ a] => (ns.length - a).toNat | _ => 0) ⟨Ext.refl w, row + 1, row, by simp, by omega, by omega, Nat.le_refl _, by omega, .inl rfl, fun to h1 h2 => by omega, fun j x h1 h2 => by omega, .inl rfl⟩ ?_
  rintro us vs w1 ⟨e1, i, m, rfl, i1, i2, i3, i4, i5, i6, i7, i8⟩
  unfold S.outline_last_L1
  have hl1 := hl.ext e1
  have fin : (∀ to, i ≤ to → to < ns.length → ¬ gd ns row to) → lastI ns row = m := fun h => lastI_eq ⟨i3, by omega, i5, fun to h1 h2 => by
    rcases Nat.lt_or_ge to i with h3 | h3
    · exact i6 to h1 h3
    · exact h to h3 h2⟩
  rw [Go.Lift.hd, Go.Lift.tl, Go.Lift.hd, sLen_sl S.tel_L_int hl1, sBin_lss, sIf_dec]
  refine ⟨fun hlt => ?_, fun hge => ⟨e1, by rw [fin fun to h1 h2 => by omega]⟩⟩
  obtain ⟨x, hx⟩ : ∃ x, ns[i]? = some x := ⟨_, List.getElem?_eq_getElem (by omega)⟩
  obtain ⟨b1, o1, hel1, hc1⟩ := hl1.el hnr
  obtain ⟨b2, o2, hel2, hc2⟩ := hl1.el hx
  refine JoinS.dup ?_
  rw [sIdxA_sl S.tel_L_int S.tsz_int (by omega) hl1 hnr rfl, hel1, sLoad_cell (v := .int .i64 n) S.tcell_int (hc1.fst rfl), sBin_eql, sIf_dec]
  refine ⟨fun h => ⟨e1, ?_⟩, fun hne => ?_⟩
  · rw [fin]
    rintro to _ _ ⟨n', h1, h2, _⟩
    rw [hnr] at h1
    cases h1
    omega
  have hn0 : 0 ≤ n := by
    rcases hb n (List.mem_of_getElem? hnr) with h | h
    · exact absurd h hne
    · exact h
  have hJ : ∀ (e : Nat) (w' : World), Ext w w' → row ≤ e → e ≤ i → (e = row ∨ (row < e ∧ gd ns row e)) → (∀ to, e < to → to < i + 1 → ¬ gd ns row to) → (¬ (0 ≤ x ∧ x ≤ n)) → ∀ (vs : List Value), S.outline_last_J2 (fun us w' => (Ext w w' ∧ ∃ (i m : Nat), us = [.int .i64 m, .int .i64 i] ∧ row < i ∧ i ≤ ns.length ∧ row ≤ m ∧ m < i ∧ (m = row ∨ (row < m ∧ gd ns row m)) ∧ (∀ to, m < to → to < i → ¬ gd ns row to) ∧ (∀ j x, row < j → j < i → ns[j]? = some x → ¬ (0 ≤ x ∧ x ≤ n)) ∧ (i = row + 1 ∨ 0 ≤ n)) ∧
      (match us with | [_, .int _ a] => (ns.length - a).toNat | _ => 0) < (match [Value.int .i64 m, Value.int .i64 i] with | [_, .int _ a] => (ns.length - a).toNat | _ => 0)) (.int .i64 i) (.int .i64 e) w' := by
    intro e w' ew h1 h2 h3 h4 h5 vs
    unfold S.outline_last_J2
    rw [sBin_add _ _ ⟨by omega, by omega⟩]
    refine ⟨⟨ew, i + 1, e, by simp, by omega, by omega, h1, by omega, h3, h4, fun j y hj hj2 hy => ?_, .inr hn0⟩, by simp only []; omega⟩
    by_cases hji : j = i
    · subst hji; rw [hx] at hy; cases hy; exact h5
    · exact i7 j y hj (by omega) hy
  rw [sIdxA_sl S.tel_L_int S.tsz_int (by omega) hl1 hx rfl, hel2, sLoad_cell (v := .int .i64 x) S.tcell_int (hc2.fst rfl), sBin_eql, sIf_dec]
  refine ⟨fun hx1 => hJ m w1 e1 i3 (by omega) i5 (fun to h1 h2 => ?_) (by omega), fun hx1 => ?_⟩
  · by_cases hti : to = i
    · subst hti
      rintro ⟨_, _, _, ⟨m', h3, h4⟩, _⟩
      rw [hx] at h3
      cases h3
      omega
    · exact i6 to h1 (by omega)
  have hx0 : 0 ≤ x := by
    rcases hb x (List.mem_of_getElem? hx) with h | h
    · exact absurd h hx1
    · exact h
  refine DrawS.ext ?_
  have E : Ext w1 w1.drew := (Ext.refl w1).drew
  rw [stillS_eq (fun w' h1 K => sIdxA_sl S.tel_L_int S.tsz_int (by omega) (hl1.ext h1) hx rfl) E, hel2, stillS_cell (v := .int .i64 x) S.tcell_int (hc2.fst rfl) E, stillS_eq (fun w' h1 K => sIdxA_sl S.tel_L_int S.tsz_int (by omega) (hl1.ext h1) hnr rfl) E, hel1, stillS_cell (v := .int .i64 n) S.tcell_int (hc1.fst rfl) E, stillS_eq (fun w' h1 K => sBin_leq _ _) E, sIf_dec]
  refine ⟨fun hle => ⟨e1.trans E, ?_⟩, fun hgt => hJ i w1.drew (e1.trans E) (by omega) (Nat.le_refl _) (.inr ⟨i1, n, hnr, hn0, ⟨x, hx, hx0⟩, fun j y hj hj2 hy => ?_⟩) (fun to h1 h2 => by omega) (by omega)⟩
  · rw [fin]
    rintro to h1 h2 ⟨n', h3, _, _, h4⟩
    rw [hnr] at h3
    cases h3
    exact h4 i x i1 h1 hx ⟨hx0, hle⟩
  · by_cases hji : j = i
    · subst hji; rw [hx] at hy; cases hy; omega
    · exact i7 j y hj (by omega) hy
theorem oranges_spec {w : World} {v : Value} {ps : List (List Int)} {tab : Int} (hG : St.Glob w) (h : Rp w v ps) (hp : RpOk ps) : sCall Tryd.prog S.outline_Ranges.n [v, .int .i64 tab] w fun u w' => Ext w w' ∧
    ((¬ St.Right tab ∧ u = .tuple #[.slice none 0 0, .int .i64 1]) ∨ (St.Right tab ∧ ∃ x : Value, u = .tuple #[x, .int .i64 0] ∧ Row w' w.heap.size S.T.outline_Range 4 x encG (rngs ps.flatten (inds tab ps.flatten) (nls ps.flatten + 1)))) := by
  refine S.outline_Ranges.call ?_
  unfold S.outline_Ranges
  have hle := hp.le
  have hnl := nls_le ps.flatten
  have hmx : maxLen = 9223372036854775807 := rfl
  refine (oindents_spec (tab := tab) hG h hp).mono ?_
  rintro u w1 ⟨e1, hu⟩
  rcases hu with ⟨hr, rfl⟩ | ⟨ht, x, rfl, hx⟩
  · rw [sExtract_0, sExtract_1, sBin_neq, sIf_not]
    exact ⟨fun _ => ⟨e1, .inl ⟨hr, rfl⟩⟩, fun h => absurd h (by decide)⟩
  rw [sExtract_0, sExtract_1, sBin_neq, sIf_not]
  refine ⟨fun h => absurd rfl h, fun _ => ?_⟩
  have hxs := hx.sl encZ_ok
  have hil := inds_len tab ps.flatten
  rw [sLen_sl S.tel_L_int hxs, hil]
  refine LoopS.intro (fun us w2 => Ext w1 w2 ∧ ∃ (i : Nat) (o : Value), us = [o, .int .i64 i] ∧ i ≤ nls ps.flatten + 1 ∧ Row w2 w1.heap.size S.T.outline_Range 4 o encG (rngs ps.flatten (inds tab ps.flatten) i))
    (fun us _ => match us with | [_, .int _ a] => ((nls ps.flatten : Int) + 1 - a).toNat | _ => 0) ⟨Ext.refl _, 0, _, rfl, Nat.zero_le _, Row.nil _ _ _ _ _⟩ ?_
  rintro us vs w2 ⟨e2, i, o, rfl, hi, ho⟩
  unfold S.outline_Ranges_L1
  have E2 := e1.trans e2
  rw [Go.Lift.hd, Go.Lift.tl, Go.Lift.hd, sBin_lss, sIf_dec]
  refine ⟨fun hlt => ?_, fun hge => ?_⟩
  · refine (olast_spec (row := i) (hxs.ext e2) (by omega) (inds_bd ht) (by omega)).mono ?_
    rintro u w3 ⟨e3, rfl⟩
    have e23 := e2.trans e3
    have hli := lastI_is (ns := inds tab ps.flatten) (row := i) (by omega)
    have hl1 := hli.ge
    have hl2 := hli.lt
    rw [hil] at hl2
    have hsucc := rngs_succ ps.flatten (inds tab ps.flatten) i
    rw [sBin_eql, sIf_dec]
    refine ⟨fun heq => ?_, fun hne => ?_⟩
    · rw [if_neg (by omega), List.append_nil] at hsucc
      rw [sBin_add _ _ ⟨by omega, by omega⟩]
      exact ⟨⟨e23, i + 1, o, by simp, by omega, by rw [hsucc]; exact ho.ext e3⟩, by simp only []; omega⟩
    · rw [if_pos (by omega)] at hsucc
      generalize hm : lastI (inds tab ps.flatten) i = m at *
      have hmk : mkR ps.flatten (inds tab ps.flatten) i = ((i : Int), (m : Int), (endL ps.flatten i : Int), (endL ps.flatten m : Int)) := by unfold mkR; rw [hm]
      refine (lspan_spec (row := i) (h.ext (e1.trans e23)) hp).mono ?_
      rintro u w4 ⟨e4, hu⟩
      rcases hu with ⟨_, rfl⟩ | ⟨h, _⟩
      case inr => exact absurd ⟨by omega, by omega⟩ h
      rw [Int.toNat_natCast, sExtract_0, sExtract_1]
      refine sVar (vs := encP2 (beh ps.flatten i) (endL ps.flatten i)) S.tze_api_Span S.tsz_api_Span (by decide) rfl rfl (encP2_one _ _) fun b11 w5 hb11 hs5 e5 hk11 => ?_
      have e25 := (e23.trans e4).trans e5
      refine (lspan_spec (row := m) (h.ext (e1.trans e25)) hp).mono ?_
      rintro u w6 ⟨e6, hu⟩
      rcases hu with ⟨_, rfl⟩ | ⟨h, _⟩
      case inr => exact absurd ⟨by omega, by omega⟩ h
      rw [Int.toNat_natCast, sExtract_0, sExtract_1]
      refine sVar (vs := encP2 (beh ps.flatten m) (endL ps.flatten m)) S.tze_api_Span S.tsz_api_Span (by decide) rfl rfl (encP2_one _ _) fun b13 w7 hb13 hs7 e7 hk13 => ?_
      have e57 := e6.trans e7
      have e27 := e25.trans e57
      rw [sFldA_ptr S.tfl_api_Span_To, sLoad_cell (v := .int .i64 (endL ps.flatten i)) S.tcell_int ((hk11.ext e57).cells.at 1 rfl), sFldA_ptr S.tfl_api_Span_To, sLoad_cell (v := .int .i64 (endL ps.flatten m)) S.tcell_int (hk13.cells.at 1 rfl),
        sBuild_of (cs := encP2 (endL ps.flatten i) (endL ps.flatten m)) (lp := [(0, [.int .i64 (endL ps.flatten i)]), (1, [.int .i64 (endL ps.flatten m)])]) S.tze_api_Span S.tpl_api_Span rfl rfl,
        sBuild_of (cs := encG ((i : Int), (m : Int), (endL ps.flatten i : Int), (endL ps.flatten m : Int))) (lp := [(0, [.int .i64 i]), (1, [.int .i64 m]), (2, encP2 (endL ps.flatten i) (endL ps.flatten m))]) S.tze_outline_Range S.tpl_outline_Range rfl rfl]
      refine sBuildSlice_own (n := 1) (enc := encG) (xs := [((i : Int), (m : Int), (endL ps.flatten i : Int), (endL ps.flatten m : Int))]) (lp := [(0, encG ((i : Int), (m : Int), (endL ps.flatten i : Int), (endL ps.flatten m : Int)))]) S.tel_L_outline_Range S.tsz_outline_Range rfl S.tze_outline_Range (by decide) (by decide) encG_ok rfl rfl fun t w8 ht' ho8 e8 hs8 => ?_
      have e38 := (((e3.trans e4).trans e5).trans e57).trans e8
      have e28 := e27.trans e8
      have hrl := rngs_len ps.flatten (inds tab ps.flatten) i
      refine sAppend_row S.tel_L_outline_Range S.tsz_outline_Range (by decide) S.tze_outline_Range rfl encG_ok (ho.ext e38) e28.size (ho8.sl encG_ok) (by simp; omega) (by rw [S.tby_outline_Range]; simp; omega) fun o' w9 ho9 hg9 _ => ?_
      have e29 := e28.wr hg9 fun g hg => ((ho.ext e38).lt g hg).1
      rw [sBin_add _ _ ⟨by omega, by omega⟩]
      refine ⟨⟨e29, i + 1, o', by simp, by omega, ?_⟩, by simp only []; omega⟩
      rw [hsucc, hmk]
      exact ho9
  · obtain rfl : i = nls ps.flatten + 1 := by omega
    exact ⟨E2, .inr ⟨ht, o, rfl, ho.mono e1.size⟩⟩
theorem ddeeper_spec {w : World} {v : Value} {ns : List Int} {row to : Nat} {n : Int} (hl : Sl w v 1 encZ ns) (hn : ns.length ≤ 2000000) (hrow : ns[row]? = some n) (hr : row < to) (ht : to < ns.length) : sCall Tryd.prog S.bodkinref43_deeper.n [v, .int .i64 row, .int .i64 to] w fun u w' => Ext w w' ∧ ∃ q : Bool, u = .bool q ∧ (q = true ↔ Dp ns n row to) := by
  refine S.bodkinref43_deeper.call ?_
  unfold S.bodkinref43_deeper
  rw [sBin_add _ _ ⟨by omega, by omega⟩]
  refine LoopS.intro (fun us w1 => Ext w w1 ∧ ∃ i : Nat, us = [.int .i64 i] ∧ row < i ∧ i ≤ to + 1 ∧ ∀ j x, row < j → j < i → ns[j]? = some x → ¬ (0 ≤ x ∧ x ≤ n))
    (fun us _ => match us with | [.int _ a] => ((to : Int) + 1 - a).toNat | _ => 0) ⟨Ext.refl w, row + 1, by simp, by omega, by omega, fun j x h1 h2 => by omega⟩ ?_
  rintro us vs w1 ⟨e1, i, rfl, i1, i2, i3⟩
  unfold S.bodkinref43_deeper_L1
  have hl1 := hl.ext e1
  rw [Go.Lift.hd, sBin_leq, sIf_dec]
  refine ⟨fun hle => ?_, fun hgt => ⟨e1, true, rfl, ?_⟩⟩
  · obtain ⟨x, hx⟩ : ∃ x, ns[i]? = some x := ⟨_, List.getElem?_eq_getElem (by omega)⟩
    obtain ⟨b1, o1, hel1, hc1⟩ := hl1.el hrow
    obtain ⟨b2, o2, hel2, hc2⟩ := hl1.el hx
    refine JoinS.intro (fun us w' => Ext w w' ∧ ¬ (0 ≤ x ∧ x ≤ n)) ?_ ?_
    · refine DrawS.ext ?_
      have E : Ext w1 w1.drew := (Ext.refl w1).drew
      rw [stillS_eq (fun w' h1 K => sIdxA_sl S.tel_L_int S.tsz_int (by omega) (hl1.ext h1) hx rfl) E, hel2, stillS_cell (v := .int .i64 x) S.tcell_int (hc2.fst rfl) E, stillS_eq (fun w' h1 K => sBin_geq _ _) E, sIf_dec]
      refine ⟨fun h0 => ?_, fun h0 => ⟨e1.trans E, fun h => h0 h.1⟩⟩
      rw [stillS_eq (fun w' h1 K => sIdxA_sl S.tel_L_int S.tsz_int (by omega) (hl1.ext h1) hx rfl) E, hel2, stillS_cell (v := .int .i64 x) S.tcell_int (hc2.fst rfl) E, stillS_eq (fun w' h1 K => sIdxA_sl S.tel_L_int S.tsz_int (by omega) (hl1.ext h1) hrow rfl) E, hel1, stillS_cell (v := .int .i64 n) S.tcell_int (hc1.fst rfl) E, stillS_eq (fun w' h1 K => sBin_leq _ _) E, sIf_dec]
      refine ⟨fun h2 => ⟨e1.trans E, false, rfl, ?_⟩, fun h2 => ⟨e1.trans E, fun h => h2 h.2⟩⟩
      simp only [Bool.false_eq_true, false_iff]
      exact fun h => h i x i1 (by omega) hx ⟨h0, h2⟩
    · rintro us vs w2 ⟨e2, hno⟩
      unfold S.bodkinref43_deeper_J2
      rw [sBin_add _ _ ⟨by omega, by omega⟩]
      refine ⟨⟨e2, i + 1, by simp, by omega, by omega, fun j y hj hj2 hy => ?_⟩, by simp only []; omega⟩
      by_cases hji : j = i
      · subst hji; rw [hx] at hy; cases hy; exact hno
      · exact i3 j y hj (by omega) hy
  · simp only [true_iff]
    exact fun j y hj hj2 hy => i3 j y hj (by omega) hy
theorem dranges_spec {w : World} {v : Value} {l : List Int} {tab : Int} (hl : Sl w v 1 encRn l) (hn : l.length ≤ 1000000) (ht : St.Right tab) : sCall Tryd.prog S.bodkinref43_Ranges.n [v, .int .i64 tab] w fun u w' => Ext w w' ∧ Row w' w.heap.size S.T.bodkinref43_Range 4 u encG (rngs l (inds tab l) (nls l + 1)) := by
  refine S.bodkinref43_Ranges.call ?_
  unfold S.bodkinref43_Ranges
  have hmx : maxLen = 9223372036854775807 := rfl
  have hnl := nls_le l
  refine (dindents_spec (tab := tab) hl hn ht).mono ?_
  rintro x w1 ⟨e1, hx⟩
  refine (dspans_spec (hl.ext e1) hn).mono ?_
  rintro s w2 ⟨e2, hs⟩
  have E2 := e1.trans e2
  have hxs := (hx.sl encZ_ok).ext e2
  have hss := hs.sl encQ_ok
  have hil := inds_len tab l
  rw [sLen_sl S.tel_L_int hxs, hil]
  generalize hns : inds tab l = ns at *
  have hbd : ∀ x ∈ ns, x = -1 ∨ 0 ≤ x := by rw [← hns]; exact inds_bd ht
  refine LoopS.intro (fun us w3 => Ext w2 w3 ∧ ∃ (i : Nat) (o : Value), us = [o, .int .i64 i] ∧ i ≤ nls l + 1 ∧ Row w3 w2.heap.size S.T.bodkinref43_Range 4 o encG (rngs l ns i))
    (fun us _ => match us with | [_, .int _ a] => ((nls l : Int) + 1 - a).toNat | _ => 0) ⟨Ext.refl _, 0, _, rfl, Nat.zero_le _, Row.nil _ _ _ _ _⟩ ?_
  rintro us vs w3 ⟨e3, i, o, rfl, hi, ho⟩
  unfold S.bodkinref43_Ranges_L1
  rw [Go.Lift.hd, Go.Lift.tl, Go.Lift.hd, sBin_lss, sIf_dec]
  refine ⟨fun hlt => ?_, fun hge => ?_⟩
  case refine_2 =>
    obtain rfl : i = nls l + 1 := by omega
    exact ⟨E2.trans e3, ho.mono (by have := E2.size; omega)⟩
  obtain ⟨n, hnr⟩ : ∃ n, ns[i]? = some n := ⟨_, List.getElem?_eq_getElem (by omega)⟩
  obtain ⟨b1, o1, hel1, hc1⟩ := (hxs.ext e3).el hnr
  rw [sIdxA_sl S.tel_L_int S.tsz_int (by omega) (hxs.ext e3) hnr rfl, hel1, sLoad_cell (v := .int .i64 n) S.tcell_int (hc1.fst rfl), sBin_add _ _ ⟨by omega, by omega⟩]
  refine LoopS.intro (fun us w4 => Ext w3 w4 ∧ ∃ (to m : Nat), us = [.int .i64 m, .int .i64 to] ∧ i < to ∧ to ≤ ns.length ∧ i ≤ m ∧ m < to ∧ (m = i ∨ (i < m ∧ gd ns i m)) ∧ (∀ t, m < t → t < to → ¬ gd ns i t))
    (fun us _ => match us with | [_, .int _ a] => (ns.length - a).toNat | _ => 0) ⟨Ext.refl _, i + 1, i, by simp, by omega, by omega, Nat.le_refl _, by omega, .inl rfl, fun t h1 h2 => by omega⟩ ?_
  rintro us vs w4 ⟨e4, to, m, rfl, i1, i2, i3, i4, i5, i6⟩
  unfold S.bodkinref43_Ranges_L2
  have e24 := e3.trans e4
  have hx4 := hxs.ext e24
  rw [Go.Lift.hd, Go.Lift.tl, Go.Lift.hd, sLen_sl S.tel_L_int hx4, sBin_lss, sIf_dec]
  refine ⟨fun hlt2 => ?_, fun hge2 => ?_⟩
  · obtain ⟨y, hy⟩ : ∃ y, ns[to]? = some y := ⟨_, List.getElem?_eq_getElem (by omega)⟩
    obtain ⟨b2, o2, hel2, hc2⟩ := hx4.el hy
    refine JoinS.intro (fun us w' => Ext w3 w' ∧ ∃ e : Nat, us = [.int .i64 e] ∧ ((e = to ∧ gd ns i to) ∨ (e = m ∧ ¬ gd ns i to))) ?_ ?_
    · rw [sBin_geq, sIf_dec]
      refine ⟨fun hn0 => ?_, fun hn0 => ⟨e4, m, rfl, .inr ⟨rfl, ?_⟩⟩⟩
      · rw [sIdxA_sl S.tel_L_int S.tsz_int (by omega) hx4 hy rfl, hel2, sLoad_cell (v := .int .i64 y) S.tcell_int (hc2.fst rfl), sBin_geq, sIf_dec]
        refine ⟨fun hy0 => ?_, fun hy0 => ⟨e4, m, rfl, .inr ⟨rfl, ?_⟩⟩⟩
        · refine (ddeeper_spec (row := i) (to := to) hx4 (by omega) hnr i1 (by omega)).mono ?_
          rintro u w5 ⟨e5, q, rfl, hq⟩
          rw [sIf_bool]
          refine ⟨fun hT => ⟨e4.trans e5, to, rfl, .inl ⟨rfl, n, hnr, hn0, ⟨y, hy, hy0⟩, hq.1 hT⟩⟩, fun hF => ⟨e4.trans e5, m, rfl, .inr ⟨rfl, ?_⟩⟩⟩
          rintro ⟨n', h1, _, _, h2⟩
          rw [hnr] at h1
          cases h1
          rw [hq.2 h2] at hF
          cases hF
        · rintro ⟨_, _, _, ⟨y', h1, h2⟩, _⟩
          rw [hy] at h1
          cases h1
          exact hy0 h2
      · rintro ⟨n', h1, h2, _⟩
        rw [hnr] at h1
        cases h1
        exact hn0 h2
    · rintro us vs w5 ⟨e5, e, rfl, he⟩
      unfold S.bodkinref43_Ranges_J3
      rw [Go.Lift.hd, sBin_add _ _ ⟨by omega, by omega⟩]
      rcases he with ⟨rfl, hg⟩ | ⟨rfl, hg⟩
      · exact ⟨⟨e5, e + 1, e, by simp, by omega, by omega, by omega, by omega, .inr ⟨i1, hg⟩, fun t h1 h2 => by omega⟩, by simp only []; omega⟩
      · refine ⟨⟨e5, to + 1, e, by simp, by omega, by omega, by omega, by omega, i5, fun t h1 h2 => ?_⟩, by simp only []; omega⟩
        by_cases hte : t = to
        · subst hte; exact hg
        · exact i6 t h1 (by omega)
  · have hlI : lastI ns i = m := lastI_eq ⟨i3, by omega, i5, fun t h1 h2 => i6 t h1 (by omega)⟩
    have hsucc := rngs_succ l ns i
    rw [hlI] at hsucc
    rw [sBin_gtr, sIf_dec]
    refine ⟨fun hgt => ?_, fun hgt => ?_⟩
    · rw [if_pos (by omega)] at hsucc
      have hmk : mkR l ns i = ((i : Int), (m : Int), (endL l i : Int), (endL l m : Int)) := by unfold mkR; rw [hlI]
      have ho4 := ho.ext e4
      have hog : ∀ g, o.ownBlock = some g → w2.heap.size ≤ g := fun g hg => (ho4.lt g hg).1
      have C0 := grown_drew w4 o.ownBlock
      have hs1 := spans_at (l := l) (k := i) (by omega)
      have hs2 := spans_at (l := l) (k := m) (by omega)
      obtain ⟨bs1, os1, hels1, hcs1⟩ := hss.el hs1
      obtain ⟨bs2, os2, hels2, hcs2⟩ := hss.el hs2
      refine DrawS.intro (fun w' => w4.grownBy w' o.ownBlock) C0 ?_
      rw [stillC_eq (fun w' (h1 : w4.grownBy w' _) K => sIdxA_sl S.tel_L_api_Span S.tsz_api_Span (by omega) (hss.ext (e24.wr h1 hog)) hs1 rfl) C0, hels1, stillC_eq (fun w' h1 K => sFldA_ptr S.tfl_api_Span_To) C0, stillC_eq (fun w' (h1 : w4.grownBy w' _) K => sLoad_cell (v := .int .i64 (endL l i)) S.tcell_int ((hcs1.ext (e24.wr h1 hog)).at 1 rfl)) C0,
        stillC_eq (fun w' (h1 : w4.grownBy w' _) K => sIdxA_sl S.tel_L_api_Span S.tsz_api_Span (by omega) (hss.ext (e24.wr h1 hog)) hs2 rfl) C0, hels2, stillC_eq (fun w' h1 K => sFldA_ptr S.tfl_api_Span_To) C0, stillC_eq (fun w' (h1 : w4.grownBy w' _) K => sLoad_cell (v := .int .i64 (endL l m)) S.tcell_int ((hcs2.ext (e24.wr h1 hog)).at 1 rfl)) C0,
        stillC_eq (fun w' h1 K => sBuild_of (cs := encP2 (endL l i) (endL l m)) (lp := [(0, [.int .i64 (endL l i)]), (1, [.int .i64 (endL l m)])]) S.tze_api_Span S.tpl_api_Span rfl rfl) C0,
        stillC_eq (fun w' h1 K => sBuild_of (cs := encG ((i : Int), (m : Int), (endL l i : Int), (endL l m : Int))) (lp := [(0, [.int .i64 i]), (1, [.int .i64 m]), (2, encP2 (endL l i) (endL l m))]) S.tze_bodkinref43_Range S.tpl_bodkinref43_Range rfl rfl) C0]
      refine sBuildSlice_own (n := 1) (enc := encG) (xs := [((i : Int), (m : Int), (endL l i : Int), (endL l m : Int))]) (lp := [(0, encG ((i : Int), (m : Int), (endL l i : Int), (endL l m : Int)))]) S.tel_L_bodkinref43_Range S.tsz_bodkinref43_Range rfl S.tze_bodkinref43_Range (by decide) (by decide) encG_ok rfl rfl fun t w8 ht' ho8 e8 hs8 => ?_
      have C8 : w4.grownBy w8 o.ownBlock := grown_trans C0 (grown_of_ext e8 _)
      refine ⟨C8, ?_⟩
      have e48 : Ext w4 w8 := (Ext.refl w4).drew.trans e8
      have e28 := e24.trans e48
      have hrl := rngs_len l ns i
      refine sAppend_row S.tel_L_bodkinref43_Range S.tsz_bodkinref43_Range (by decide) S.tze_bodkinref43_Range rfl encG_ok (ho4.ext e48) e28.size (ho8.sl encG_ok) (by simp; omega) (by rw [S.tby_bodkinref43_Range]; simp; omega) fun o' w9 ho9 hg9 _ => ?_
      refine ⟨grown_trans C8 hg9, ?_⟩
      rw [sBin_add _ _ ⟨by omega, by omega⟩]
      refine ⟨⟨e28.wr hg9 hog, i + 1, o', by simp, by omega, ?_⟩, by simp only []; omega⟩
      rw [hsucc, hmk]
      exact ho9
    · rw [if_neg (by omega), List.append_nil] at hsucc
      rw [sBin_add _ _ ⟨by omega, by omega⟩]
      exact ⟨⟨e24, i + 1, o, by simp, by omega, by rw [hsucc]; exact ho.ext e4⟩, by simp only []; omega⟩
end Go.Proofs.YtplpkeoakclobaaDoor
