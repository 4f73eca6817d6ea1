/- Indents: of a line, of all rows, of the program and of the document. Conditions: the tables of widths and of sizes in memory; right pieces. -/
import Derived.Test.YtplpkeoakclobaaDoorG2
import Derived.Test.YtplpkeoakclobaaDoorSt
import Derived.Test.YtplpkeoakclobaaDoorPn
namespace Go.Proofs.YtplpkeoakclobaaDoor
open Go Go.Lift Go.RowKit Go.Txt

noncomputable abbrev fPl : Int → Int := St.ofT St.zeroL St.wideL
/-- Neither a space nor a tab. -/
def nsp (r : Int) : Bool := !(decide (r = 32)) && !(decide (r = 9))
noncomputable def indP (tab : Int) (line : List Int) : Int := match line.findIdx? nsp with | some i => St.pos fPl tab line i | none => -1
theorem indP_some {tab : Int} {line : List Int} {i : Nat} {r : Int} (h : line[i]? = some r) (hr : nsp r = true) (hb : ∀ j, j < i → ∀ r', line[j]? = some r' → nsp r' = false) : indP tab line = St.pos fPl tab line i := by
  have hlt := (List.getElem?_eq_some_iff.1 h).1
  have : line.findIdx? nsp = some i := by
    rw [List.findIdx?_eq_some_iff_getElem]
    refine ⟨hlt, ?_, fun j hj => ?_⟩
    · rw [(List.getElem?_eq_some_iff.1 h).2]; exact hr
    · have := hb j hj _ (List.getElem?_eq_getElem (by omega))
      simp [this]
  unfold indP
  rw [this]
theorem indP_none {tab : Int} {line : List Int} (h : ∀ r ∈ line, nsp r = false) : indP tab line = -1 := by
  have : line.findIdx? nsp = none := by rw [List.findIdx?_eq_none_iff]; exact h
  unfold indP
  rw [this]
theorem indP_bd {tab : Int} {line : List Int} (ht : St.Right tab) : indP tab line = -1 ∨ 0 ≤ indP tab line := by
  unfold indP
  split
  · exact .inr (St.pos_bd (f := fPl) ⟨St.ofT_le _ _, ht⟩ _).1
  · exact .inl rfl
theorem nsp1_spec {w : World} (r : Int) : sDyn Tryd.prog (.func (.func S.outline_indent_1.n) #[] #[]) [.int .i32 r] w fun u w' => w' = w ∧ u = .bool (nsp r) := by
  rw [sDyn_func]
  refine S.outline_indent_1.call ?_
  unfold S.outline_indent_1
  rw [sBin_neq, sIf_not]
  refine ⟨fun h => ?_, fun h => ⟨rfl, by subst h; rfl⟩⟩
  rw [sBin_neq]
  refine ⟨rfl, ?_⟩
  unfold nsp
  rw [decide_eq_false h]
  rfl
theorem idxr_spec {w : World} {v : Value} {line : List Int} (hl : Sl w v 1 encRn line) (hn : line.length ≤ 1000000) : sCall Tryd.prog S.slices_IndexFunc_rune.n [v, .func (.func S.outline_indent_1.n) #[] #[]] w fun u w' => w' = w ∧ ∃ z : Int, u = .int .i64 z ∧
    ((z = -1 ∧ ∀ r ∈ line, nsp r = false) ∨ ∃ (i : Nat) (r : Int), z = i ∧ line[i]? = some r ∧ nsp r = true ∧ ∀ j, j < i → ∀ r', line[j]? = some r' → nsp r' = false) := by
  refine S.slices_IndexFunc_rune.call ?_
  unfold S.slices_IndexFunc_rune
  rw [sLen_sl S.tel_L_int32 hl]
  refine LoopS.intro (fun us w1 => w1 = w ∧ ∃ i : Nat, us = [.int .i64 i] ∧ i ≤ line.length ∧ ∀ j, j < i → ∀ r', line[j]? = some r' → nsp r' = false)
    (fun us _ => match us with | [.int _ a] => (line.length - a).toNat | _ => 0) ⟨rfl, 0, rfl, Nat.zero_le _, fun j hj => by omega⟩ ?_
  rintro us vs w1 ⟨rfl, i, rfl, hi, hb⟩
  unfold S.slices_IndexFunc_rune_L1
  rw [Go.Lift.hd, sBin_lss, sIf_dec]
  refine ⟨fun hlt => ?_, fun hge => ?_⟩
  · obtain ⟨r, hr⟩ : ∃ r, line[i]? = some r := ⟨_, List.getElem?_eq_getElem (by omega)⟩
    obtain ⟨b, of, hel, hc⟩ := hl.el hr
    rw [sIdxA_sl S.tel_L_int32 S.tsz_int32 (by omega) hl hr rfl, hel, sLoad_cell (v := .int .i32 r) S.tcell_int32 (hc.fst rfl)]
    refine sDyn_mono ?_ (nsp1_spec r)
    rintro u w2 ⟨rfl, rfl⟩
    rw [sIf_bool]
    refine ⟨fun h => ⟨rfl, _, rfl, .inr ⟨i, r, rfl, hr, h, hb⟩⟩, fun h => ?_⟩
    rw [sBin_add _ _ ⟨by omega, by omega⟩]
    refine ⟨⟨rfl, i + 1, by simp, by omega, fun j hj r' hr' => ?_⟩, by simp only []; omega⟩
    rcases Nat.lt_or_ge j i with h1 | h1
    · exact hb j h1 r' hr'
    · obtain rfl : j = i := by omega
      rw [hr] at hr'
      cases hr'
      exact h
  · refine ⟨rfl, _, rfl, .inl ⟨rfl, fun r hr => ?_⟩⟩
    obtain ⟨j, hj⟩ := List.mem_iff_getElem?.1 hr
    have := (List.getElem?_eq_some_iff.1 hj).1
    exact hb j (by omega) r hj
theorem oindent_spec {w : World} {v : Value} {line : List Int} {tab : Int} (hG : St.Glob w) (hl : Sl w v 1 encRn line) (hn : line.length ≤ 1000000) (ht : St.Right tab) : sCall Tryd.prog S.outline_indent.n [v, .int .i64 tab] w fun u w' => Ext w w' ∧ u = .int .i64 (indP tab line) := by
  refine S.outline_indent.call ?_
  unfold S.outline_indent
  refine (idxr_spec hl hn).mono ?_
  rintro u w1 ⟨rfl, z, rfl, hz⟩
  rw [sBin_lss, sIf_dec]
  rcases hz with ⟨rfl, hall⟩ | ⟨i, r, rfl, hr, hns, hb⟩
  · exact ⟨fun _ => ⟨Ext.refl _, by rw [indP_none hall]⟩, fun h => absurd (by decide) h⟩
  · refine ⟨fun h => by omega, fun _ => ?_⟩
    have hlt := (List.getElem?_eq_some_iff.1 hr).1
    refine (St.plain_spec hG).mono ?_
    rintro p w2 ⟨e2, hp⟩
    rw [sBuild_of (cs := St.encQ tab i) (lp := [(0, [.int .i64 tab]), (1, [.int .i64 i])]) S.tze_stops_Ask S.tpl_stops_Ask rfl rfl]
    refine (St.cell_spec (f := fPl) (tab := tab) (a := i) (St.OfE.tab hp St.fine_plain) (St.ofT_le _ _) (hl.ext e2) hn).mono ?_
    rintro u w3 ⟨e3, c, e, rfl, hc⟩
    rcases hc with ⟨h, _⟩ | ⟨_, _, _, rfl, rfl⟩
    · exact absurd ⟨ht, by omega, by omega⟩ h
    · rw [sExtract_0, sExtract_1, Int.toNat_natCast, indP_some hr hns hb]
      exact ⟨e2.trans e3, rfl⟩
/-- What is in a row. -/
noncomputable def rowL (l : List Int) (k : Nat) : List Int := (l.drop (beh l k)).take (endL l k - beh l k)
noncomputable def inds (tab : Int) (l : List Int) : List Int := (List.range (nls l + 1)).map fun k => indP tab (rowL l k)
theorem inds_len (tab : Int) (l : List Int) : (inds tab l).length = nls l + 1 := by simp [inds]
theorem inds_at {tab : Int} {l : List Int} {k : Nat} (h : k ≤ nls l) : (inds tab l)[k]? = some (indP tab (rowL l k)) := by
  unfold inds
  rw [List.getElem?_map, List.getElem?_range (by omega)]
  rfl
theorem inds_bd {tab : Int} {l : List Int} (ht : St.Right tab) : ∀ x ∈ inds tab l, x = -1 ∨ 0 ≤ x := fun x hx => by
  obtain ⟨k, _, rfl⟩ := List.mem_map.1 hx
  exact indP_bd ht
theorem rowL_len (l : List Int) (k : Nat) : (rowL l k).length ≤ l.length := by unfold rowL; rw [List.length_take, List.length_drop]; omega
theorem oindents_spec {w : World} {v : Value} {ps : List (List Int)} {tab : Int} (hG : St.Glob w) (h : Rp w v ps) (hp : RpOk ps) : sCall Tryd.prog S.outline_Indents.n [v, .int .i64 tab] w fun u w' => Ext w w' ∧
    ((¬ St.Right tab ∧ u = .tuple #[.slice none 0 0, .int .i64 1]) ∨ (St.Right tab ∧ ∃ x : Value, u = .tuple #[x, .int .i64 0] ∧ Row w' w.heap.size S.T.int 1 x encZ (inds tab ps.flatten))) := by
  refine S.outline_Indents.call ?_
  unfold S.outline_Indents
  have hle := hp.le
  have hmx : maxLen = 9223372036854775807 := rfl
  rw [sBin_lss, sIf_dec]
  refine ⟨fun h1 => ⟨Ext.refl w, .inl ⟨fun h => by have := h.1; omega, rfl⟩⟩, fun h1 => ?_⟩
  rw [sBin_gtr, sIf_dec]
  refine ⟨fun h2 => ⟨Ext.refl w, .inl ⟨fun h => by have := h.2; omega, rfl⟩⟩, fun h2 => ?_⟩
  have ht : St.Right tab := ⟨by omega, by omega⟩
  have hnl := nls_le ps.flatten
  refine (lrows_spec h hp).mono ?_
  rintro u w1 ⟨e1, rfl⟩
  refine LoopS.intro (fun us w2 => Ext w w2 ∧ ∃ (i : Nat) (o : Value), us = [o, .int .i64 i] ∧ i ≤ nls ps.flatten + 1 ∧ Row w2 w.heap.size S.T.int 1 o encZ ((List.range i).map fun k => indP tab (rowL ps.flatten k)))
    (fun us _ => match us with | [_, .int _ a] => ((nls ps.flatten : Int) + 1 - a).toNat | _ => 0) ⟨e1, 0, _, rfl, Nat.zero_le _, Row.nil _ _ _ _ _⟩ ?_
  rintro us vs w2 ⟨e2, i, o, rfl, hi, ho⟩
  unfold S.outline_Indents_L1
  rw [Go.Lift.hd, Go.Lift.tl, Go.Lift.hd, sBin_lss, sIf_dec]
  refine ⟨fun hlt => ?_, fun hge => ?_⟩
  · refine (ltext_spec (row := i) (h.ext e2) hp).mono ?_
    rintro u w3 ⟨e3, hu⟩
    rcases hu with ⟨_, rfl⟩ | ⟨h, _⟩
    case inr => exact absurd ⟨by omega, by omega⟩ h
    rw [Int.toNat_natCast, sExtract_0, sExtract_1]
    have hrl := rowL_len ps.flatten i
    have htl := txt_len (rowL ps.flatten i)
    have hrow : runes (txt (rowL ps.flatten i)) = rowL ps.flatten i := runes_of fun r hr => hp.runes r (List.mem_of_mem_drop (List.mem_of_mem_take hr))
    refine (udecode_spec (txt (rowL ps.flatten i)) (by omega)).mono ?_
    rintro q w4 ⟨e4, hq⟩
    rw [hrow] at hq
    have e24 := e3.trans e4
    refine (oindent_spec (tab := tab) (hG.ext (e2.trans e24)) (hq.sl encRn_ok) (by omega) ht).mono ?_
    rintro u w5 ⟨e5, rfl⟩
    have e25 := e24.trans e5
    refine sBuildSlice_own (n := 1) (enc := encZ) (xs := [indP tab (rowL ps.flatten i)]) (lp := [(0, encZ (indP tab (rowL ps.flatten i)))]) S.tel_L_int S.tsz_int rfl S.tze_int (by decide) (by decide) encZ_ok rfl rfl fun t w6 ht' ho6 e6 hs6 => ?_
    have e26 := e25.trans e6
    have E6 := e2.trans e26
    refine sAppend_row S.tel_L_int S.tsz_int (by decide) S.tze_int rfl encZ_ok (ho.ext e26) E6.size (ho6.sl encZ_ok) (by simp; omega) (by rw [S.tby_int]; simp; omega) fun o' w7 ho7 hg7 _ => ?_
    have E7 := E6.wr hg7 fun g hg => ((ho.ext e26).lt g hg).1
    rw [sBin_add _ _ ⟨by omega, by omega⟩]
    refine ⟨⟨E7, i + 1, o', by simp, by omega, ?_⟩, by simp only []; omega⟩
    rw [List.range_succ, List.map_append, List.map_singleton]
    exact ho7
  · obtain rfl : i = nls ps.flatten + 1 := by omega
    exact ⟨e2, .inr ⟨ht, o, rfl, ho⟩⟩
theorem dindent_spec {w : World} {v : Value} {line : List Int} {tab : Int} (hl : Sl w v 1 encRn line) (hn : line.length ≤ 1000000) (ht : St.Right tab) : sCall Tryd.prog S.bodkinref43_indent.n [v, .int .i64 tab] w fun u w' => Ext w w' ∧ u = .int .i64 (indP tab line) := by
  refine S.bodkinref43_indent.call ?_
  unfold S.bodkinref43_indent
  rw [sLen_sl S.tel_L_int32 hl]
  refine LoopS.intro (fun us w1 => w1 = w ∧ ∃ i : Nat, us = [.int .i64 i] ∧ i ≤ line.length ∧ ∀ j, j < i → ∀ r', line[j]? = some r' → nsp r' = false)
    (fun us _ => match us with | [.int _ a] => (line.length - a).toNat | _ => 0) ⟨rfl, 0, rfl, Nat.zero_le _, fun j hj => by omega⟩ ?_
  rintro us vs w1 ⟨rfl, i, rfl, hi, hb⟩
  unfold S.bodkinref43_indent_L1
  rw [Go.Lift.hd, sBin_lss, sIf_dec]
  refine ⟨fun hlt => ?_, fun hge => ?_⟩
  · obtain ⟨r, hr⟩ : ∃ r, line[i]? = some r := ⟨_, List.getElem?_eq_getElem (by omega)⟩
    obtain ⟨b, of, hel, hc⟩ := hl.el hr
    rw [sIdxA_sl S.tel_L_int32 S.tsz_int32 (by omega) hl hr rfl, hel, sLoad_cell (v := .int .i32 r) S.tcell_int32 (hc.fst rfl)]
    refine JoinS.intro (fun us w' => w' = w1 ∧ us = [.bool (nsp r)]) ?_ ?_
    · rw [sBin_neq, sIf_not]
      refine ⟨fun h => ?_, fun h => ⟨rfl, by subst h; rfl⟩⟩
      rw [sBin_neq]
      refine ⟨rfl, ?_⟩
      unfold nsp
      rw [decide_eq_false h]
      rfl
    · rintro us vs w1 ⟨rfl, rfl⟩
      unfold S.bodkinref43_indent_J2
      rw [Go.Lift.hd, sIf_bool]
      refine ⟨fun h => ?_, fun h => ?_⟩
      · refine (St.refplain_spec w1).mono ?_
        rintro p w2 ⟨e2, hp⟩
        refine (St.refcells_spec (tab := tab) hp (by decide) (by decide) ht (hl.ext e2) hn).mono ?_
        rintro u w3 ⟨e3, hu⟩
        have hat : (St.poss fPl tab line (line.length + 1))[i]? = some (St.pos fPl tab line i) := St.poss_at (by omega)
        have hus := hu.sl (St.encI_ok _)
        obtain ⟨b2, of2, hel2, hc2⟩ := hus.el hat
        rw [sIdxA_sl S.tel_L_int S.tsz_int (by omega) hus hat rfl, hel2, sLoad_cell (v := .int .i64 (St.pos fPl tab line i)) S.tcell_int (hc2.fst rfl), indP_some hr h hb]
        exact ⟨e2.trans e3, rfl⟩
      · rw [sBin_add _ _ ⟨by omega, by omega⟩]
        refine ⟨⟨rfl, i + 1, by simp, by omega, fun j hj r' hr' => ?_⟩, by simp only []; omega⟩
        rcases Nat.lt_or_ge j i with h1 | h1
        · exact hb j h1 r' hr'
        · obtain rfl : j = i := by omega
          rw [hr] at hr'
          cases hr'
          exact h
  · refine ⟨Ext.refl _, ?_⟩
    rw [indP_none fun r hr => ?_]
    obtain ⟨j, hj⟩ := List.mem_iff_getElem?.1 hr
    have := (List.getElem?_eq_some_iff.1 hj).1
    exact hb j (by omega) r hj
theorem dindents_spec {w : World} {v : Value} {l : List Int} {tab : Int} (hl : Sl w v 1 encRn l) (hn : l.length ≤ 1000000) (ht : St.Right tab) : sCall Tryd.prog S.bodkinref43_Indents.n [v, .int .i64 tab] w fun u w' => Ext w w' ∧ Row w' w.heap.size S.T.int 1 u encZ (inds tab l) := by
  refine S.bodkinref43_Indents.call ?_
  unfold S.bodkinref43_Indents
  have hmx : maxLen = 9223372036854775807 := rfl
  have hnl := nls_le l
  refine (dspans_spec hl hn).mono ?_
  rintro s w1 ⟨e1, hs⟩
  have hss := hs.sl encQ_ok
  rw [sLen_sl S.tel_L_api_Span hss, spans_len]
  refine LoopS.intro (fun us w2 => Ext w1 w2 ∧ ∃ (i : Nat) (o : Value), us = [o, .int .i64 i] ∧ i ≤ nls l + 1 ∧ Row w2 w1.heap.size S.T.int 1 o encZ ((List.range i).map fun k => indP tab (rowL l k)))
    (fun us _ => match us with | [_, .int _ a] => ((nls l : Int) + 1 - a).toNat | _ => 0) ⟨Ext.refl _, 0, _, rfl, Nat.zero_le _, Row.nil _ _ _ _ _⟩ ?_
  rintro us vs w2 ⟨e2, i, o, rfl, hi, ho⟩
  unfold S.bodkinref43_Indents_L1
  rw [Go.Lift.hd, Go.Lift.tl, Go.Lift.hd, sBin_lss, sIf_dec]
  refine ⟨fun hlt => ?_, fun hge => ?_⟩
  · have hsa := spans_at (l := l) (k := i) (by omega)
    have hbe := beh_end (l := l) (k := i) (by omega)
    obtain ⟨b, of, hel, hc⟩ := (hss.ext e2).el hsa
    rw [sIdxA_sl S.tel_L_api_Span S.tsz_api_Span (by omega) (hss.ext e2) hsa rfl, hel, sLoad_agg (cs := encP2 (beh l i) (endL l i)) S.tagg_api_Span hc rfl]
    refine sVar (vs := encP2 (beh l i) (endL l i)) S.tze_api_Span S.tsz_api_Span (by decide) rfl rfl (encP2_one _ _) fun b7 w3 hb7 hs3 e3 hk7 => ?_
    have E3 := (e1.trans e2).trans e3
    have hcap := sl_cap (hl.ext E3)
    rw [sFldA_ptr S.tfl_api_Span_From, sLoad_cell (v := .int .i64 (beh l i)) S.tcell_int (hk7.cells.at 0 rfl), sFldA_ptr S.tfl_api_Span_To, sLoad_cell (v := .int .i64 (endL l i)) S.tcell_int (hk7.cells.at 1 rfl),
      sSlice_lh (lo := beh l i) (hi := endL l i) S.tel_L_int32 S.tsz_int32 (by omega) (hl.ext E3) rfl rfl (by omega) (by omega)]
    have p1 : Sl w3 (slV v 1 (beh l i) (endL l i) (capV v)) 1 encRn (rowL l i) := by
      have := (hl.ext E3).part (lo := beh l i) (hi := endL l i) (mx := capV v) (by omega) (by omega) (by omega) (Nat.le_refl _)
      rwa [List.drop_take] at this
    have hrl := rowL_len l i
    refine (dindent_spec (tab := tab) p1 (by omega) ht).mono ?_
    rintro u w4 ⟨e4, rfl⟩
    have e24 := e3.trans e4
    refine sBuildSlice_own (n := 1) (enc := encZ) (xs := [indP tab (rowL l i)]) (lp := [(0, encZ (indP tab (rowL l i)))]) S.tel_L_int S.tsz_int rfl S.tze_int (by decide) (by decide) encZ_ok rfl rfl fun t w6 ht' ho6 e6 hs6 => ?_
    have e26 := e24.trans e6
    have E6 := e2.trans e26
    refine sAppend_row S.tel_L_int S.tsz_int (by decide) S.tze_int rfl encZ_ok (ho.ext e26) E6.size (ho6.sl encZ_ok) (by simp; omega) (by rw [S.tby_int]; simp; omega) fun o' w7 ho7 hg7 _ => ?_
    have E7 := E6.wr hg7 fun g hg => ((ho.ext e26).lt g hg).1
    rw [sBin_add _ _ ⟨by omega, by omega⟩]
    refine ⟨⟨E7, i + 1, o', by simp, by omega, ?_⟩, by simp only []; omega⟩
    rw [List.range_succ, List.map_append, List.map_singleton]
    exact ho7
  · obtain rfl : i = nls l + 1 := by omega
    exact ⟨e1.trans e2, ho.mono e1.size⟩
end Go.Proofs.YtplpkeoakclobaaDoor
