/- Ranges around a row; the laws of indents and ranges. Conditions: the tables of widths and of sizes in memory. -/
import Derived.Test.YtplpkeoakclobaaDoorK2
namespace Go.Proofs.YtplpkeoakclobaaDoor
open Go Go.Lift Go.RowKit Go.Txt

theorem Sl.shell {α : Type} {w w0 : World} {v : Value} {k : Nat} {enc : α → List Value} {xs : List α} (h : Sl w0 v k enc xs) : Sl w v k (fun _ : Unit => []) (List.replicate xs.length ()) := by
  obtain ⟨a, cap, rfl, h1, h2, h3⟩ := h
  refine ⟨a, cap, by simp, by simpa using h1, h2, fun i x hx => ?_⟩
  obtain ⟨y, hy⟩ : ∃ y, xs[i]? = some y := by
    have := (List.getElem?_eq_some_iff.1 hx).1
    rw [List.length_replicate] at this
    exact ⟨_, List.getElem?_eq_getElem this⟩
  obtain ⟨b, o, hb, _⟩ := h3 i y hy
  exact ⟨b, o, hb, fun j u hu => by simp at hu⟩
def delR (row : Int) (x : Rg4) : Bool := decide (row < x.1) || decide (x.2.1 < row)
def keepR (row : Int) (x : Rg4) : Bool := !delR row x
theorem del1_spec {w : World} {b : Nat} {row : Int} {x : Rg4} (hk : Cells w b 0 [.int .i64 row]) : sDyn Tryd.prog (.func (.func S.outline_Around_1.n) #[] #[.pointer (some ⟨b, 0, none⟩)]) [.agg (encG x).toArray] w fun u w' => Ext w w' ∧ u = .bool (delR row x) := by
  rw [sDyn_func]
  refine S.outline_Around_1.call ?_
  unfold S.outline_Around_1
  refine sBox_new (cs := encG x) rfl fun b2 w1 hb2 hs1 e1 hk2 => ?_
  have k1 := hk.ext e1
  rw [sLoad_cell (v := .int .i64 row) S.tcell_int (k1.fst rfl), sFldA_ptr S.tfl_outline_Range_Row, sLoad_cell (v := .int .i64 x.1) S.tcell_int (hk2.cells.at 0 rfl), sBin_lss, sIf_dec]
  refine ⟨fun h => ⟨e1, by unfold delR; rw [decide_eq_true h]; rfl⟩, fun h => ?_⟩
  rw [sLoad_cell (v := .int .i64 row) S.tcell_int (k1.fst rfl), sFldA_ptr S.tfl_outline_Range_Last, sLoad_cell (v := .int .i64 x.2.1) S.tcell_int (hk2.cells.at 1 rfl), sBin_gtr]
  exact ⟨e1, by unfold delR; rw [decide_eq_false h]; rfl⟩
theorem idxg_spec {w : World} {b : Nat} {v : Value} {row : Int} {xs : List Rg4} (hk : Cells w b 0 [.int .i64 row]) (hl : Sl w v 4 encG xs) (hn : xs.length ≤ 1000000) : sCall Tryd.prog S.slices_IndexFunc_outline_Range.n [v, .func (.func S.outline_Around_1.n) #[] #[.pointer (some ⟨b, 0, none⟩)]] w fun u w' => Ext w w' ∧ ∃ z : Int, u = .int .i64 z ∧
    ((z = -1 ∧ ∀ x ∈ xs, delR row x = false) ∨ ∃ (i : Nat) (x : Rg4), z = i ∧ xs[i]? = some x ∧ delR row x = true ∧ ∀ y ∈ xs.take i, delR row y = false) := by
  refine S.slices_IndexFunc_outline_Range.call ?_
  unfold S.slices_IndexFunc_outline_Range
  rw [sLen_sl S.tel_L_outline_Range hl]
  refine LoopS.intro (fun us w1 => Ext w w1 ∧ ∃ i : Nat, us = [.int .i64 i] ∧ i ≤ xs.length ∧ ∀ y ∈ xs.take i, delR row y = false)
    (fun us _ => match us with | [.int _ a] => (xs.length - a).toNat | _ => 0) ⟨Ext.refl w, 0, rfl, Nat.zero_le _, fun y hy => by simp at hy⟩ ?_
  rintro us vs w1 ⟨e1, i, rfl, hi, hb⟩
  unfold S.slices_IndexFunc_outline_Range_L1
  rw [Go.Lift.hd, sBin_lss, sIf_dec]
  refine ⟨fun hlt => ?_, fun hge => ?_⟩
  · obtain ⟨x, hx⟩ : ∃ x, xs[i]? = some x := ⟨_, List.getElem?_eq_getElem (by omega)⟩
    obtain ⟨bb, of, hel, hc⟩ := (hl.ext e1).el hx
    rw [sIdxA_sl S.tel_L_outline_Range S.tsz_outline_Range (by omega) (hl.ext e1) hx rfl, hel, sLoad_agg (cs := encG x) S.tagg_outline_Range hc rfl]
    refine sDyn_mono ?_ (del1_spec (x := x) (hk.ext e1))
    rintro u w2 ⟨e2, rfl⟩
    rw [sIf_bool]
    refine ⟨fun h => ⟨e1.trans e2, _, rfl, .inr ⟨i, x, rfl, hx, h, hb⟩⟩, fun h => ?_⟩
    rw [sBin_add _ _ ⟨by omega, by omega⟩]
    refine ⟨⟨e1.trans e2, i + 1, by simp, by omega, fun y hy => ?_⟩, by simp only []; omega⟩
    rw [take_succ_of hx, List.mem_append] at hy
    rcases hy with hy | hy
    · exact hb y hy
    · simp only [List.mem_singleton] at hy
      subst hy
      exact h
  · obtain rfl : i = xs.length := by omega
    rw [List.take_length] at hb
    exact ⟨e1, _, rfl, .inl ⟨rfl, hb⟩⟩
theorem filter_all {row : Int} {xs : List Rg4} (h : ∀ x ∈ xs, delR row x = false) : xs.filter (keepR row) = xs := List.filter_eq_self.2 fun x hx => by unfold keepR; rw [h x hx]; rfl
theorem ddel_spec {w0 w : World} {b : Nat} {v : Value} {row : Int} {xs : List Rg4} (e : Ext w0 w) (hk : Cells w0 b 0 [.int .i64 row]) (hr : Row w w0.heap.size S.T.outline_Range 4 v encG xs) (hn : xs.length ≤ 1000000) : sCall Tryd.prog S.slices_DeleteFunc.n [v, .func (.func S.outline_Around_1.n) #[] #[.pointer (some ⟨b, 0, none⟩)]] w fun u w' => Ext w0 w' ∧ Row w' w0.heap.size S.T.outline_Range 4 u encG (xs.filter (keepR row)) := by
  refine S.slices_DeleteFunc.call ?_
  unfold S.slices_DeleteFunc
  refine (idxg_spec (hk.ext e) (hr.sl encG_ok) hn).mono ?_
  rintro u w1 ⟨e1, z, rfl, hz⟩
  have E1 := e.trans e1
  have r1 := hr.ext e1
  rw [sBin_eql, sIf_dec]
  rcases hz with ⟨rfl, hall⟩ | ⟨ix, x0, rfl, hx0, hd0, hb0⟩
  · exact ⟨fun _ => ⟨E1, by rw [filter_all hall]; exact r1⟩, fun h => absurd rfl h⟩
  refine ⟨fun h => by omega, fun _ => ?_⟩
  have hixl := (List.getElem?_eq_some_iff.1 hx0).1
  rw [sBin_add _ _ ⟨by omega, by omega⟩]
  refine LoopS.intro (fun us w2 => Ext w0 w2 ∧ ∃ (i j : Nat) (ys : List Rg4), us = [.int .i64 i, .int .i64 j] ∧ i < j ∧ j ≤ xs.length ∧ ys.length = xs.length ∧ Row w2 w0.heap.size S.T.outline_Range 4 v encG ys ∧ ys.take i = (xs.take j).filter (keepR row) ∧ ys.drop j = xs.drop j)
    (fun us _ => match us with | [_, .int _ a] => (xs.length - a).toNat | _ => 0) ⟨E1, ix, ix + 1, xs, by simp, by omega, by omega, rfl, r1, by
      rw [take_succ_of hx0, List.filter_append, filter_all hb0]
      have : keepR row x0 = false := by unfold keepR; rw [hd0]; rfl
      simp [this], rfl⟩ ?_
  rintro us vs w2 ⟨E2, i, j, ys, rfl, hij, hj, hyl, r2, hti, htd⟩
  unfold S.slices_DeleteFunc_L1
  have hsl := r2.sl encG_ok
  rw [Go.Lift.hd, Go.Lift.tl, Go.Lift.hd, sLen_sl S.tel_L_outline_Range hsl, hyl, sBin_lss, sIf_dec]
  refine ⟨fun hlt => ?_, fun hge => ?_⟩
  · obtain ⟨x, hx⟩ : ∃ x, xs[j]? = some x := ⟨_, List.getElem?_eq_getElem (by omega)⟩
    have hyx : ys[j]? = some x := by
      have h1 := congrArg (fun (l : List Rg4) => l[0]?) htd
      simp only [List.getElem?_drop, Nat.add_zero] at h1
      rw [h1, hx]
    have htd' : ys.drop (j + 1) = xs.drop (j + 1) := by
      have h1 := congrArg (List.drop 1) htd
      rwa [List.drop_drop, List.drop_drop] at h1
    obtain ⟨bb, of, hel, hc⟩ := hsl.el hyx
    refine JoinS.dup ?_
    rw [sIdxA_sl S.tel_L_outline_Range S.tsz_outline_Range (by omega) hsl hyx rfl, hel, sLoad_agg (cs := encG x) S.tagg_outline_Range hc rfl]
    refine sVar (vs := encG x) S.tze_outline_Range S.tsz_outline_Range (by decide) rfl rfl (encG_one x) fun b7 w3 hb7 hs3 e3 hk7 => ?_
    have E3 := E2.trans e3
    rw [sLoad_agg (cs := encG x) S.tagg_outline_Range hk7.cells rfl]
    refine sDyn_mono ?_ (del1_spec (x := x) (hk.ext E3))
    rintro u w4 ⟨e4, rfl⟩
    have E4 := E3.trans e4
    have k7 := hk7.ext e4
    have r4 := (r2.ext e3).ext e4
    rw [sUn_not, sIf_bool]
    refine ⟨fun hkeep => ?_, fun hdel => ?_⟩
    · have hke : keepR row x = true := hkeep
      have hiy : i < ys.length := by omega
      obtain ⟨yi, hyi⟩ : ∃ y, ys[i]? = some y := ⟨_, List.getElem?_eq_getElem hiy⟩
      rw [sLoad_agg (cs := encG x) S.tagg_outline_Range k7.cells rfl, sIdxA_sl S.tel_L_outline_Range S.tsz_outline_Range (by omega) (r4.sl encG_ok) hyi rfl]
      refine sStore_row (x := x) S.tsz_outline_Range (by decide) encG_ok r4 hiy rfl fun w5 hs5 hg5 r5 => ?_
      rw [sBin_add _ _ ⟨by omega, by omega⟩]
      intro vs
      unfold S.slices_DeleteFunc_J2
      rw [Go.Lift.hd, sBin_add _ _ ⟨by omega, by omega⟩]
      refine ⟨⟨E4.wr hg5 fun g hg => (r4.lt g hg).1, i + 1, j + 1, ys.set i x, by simp, by omega, by omega, by rw [List.length_set, hyl], r5, ?_, ?_⟩, by simp only []; omega⟩
      · rw [take_succ_of hx, List.filter_append, ← hti]
        have h1 : (ys.set i x)[i]? = some x := by rw [List.getElem?_set_self hiy]
        rw [take_succ_of h1, List.take_set_of_le (Nat.le_refl _)]
        simp [hke]
      · rw [List.drop_set_of_lt (by omega), htd']
    · have hke : keepR row x = false := hdel
      intro vs
      unfold S.slices_DeleteFunc_J2
      rw [Go.Lift.hd, sBin_add _ _ ⟨by omega, by omega⟩]
      refine ⟨⟨E4, i, j + 1, ys, by simp, by omega, by omega, hyl, r4, ?_, htd'⟩, by simp only []; omega⟩
      rw [take_succ_of hx, List.filter_append, ← hti]
      simp [hke]
  · obtain rfl : j = xs.length := by omega
    rw [List.take_length] at hti
    rw [sSlice_l (lo := i) S.tel_L_outline_Range S.tsz_outline_Range (by omega) hsl rfl (by omega)]
    refine sClear_row S.tel_L_outline_Range S.tze_outline_Range rfl (by decide) (by decide) encG_ok r2 (by omega) fun w3 hg3 r3 => ?_
    have hsh := Sl.shell (w := w3) hsl
    rw [sSlice_h (hi := i) S.tel_L_outline_Range S.tsz_outline_Range (by omega) hsh rfl (by rw [List.length_replicate]; omega)]
    refine ⟨E2.wr hg3 fun g hg => (r2.lt g hg).1, ?_⟩
    rw [← hti]
    exact r3
theorem oaround_spec {w : World} {v : Value} {ps : List (List Int)} {tab row : Int} (hG : St.Glob w) (h : Rp w v ps) (hp : RpOk ps) : sCall Tryd.prog S.outline_Around.n [v, .int .i64 tab, .int .i64 row] w fun u w' => Ext w w' ∧
    ((¬ (St.Right tab ∧ 0 ≤ row ∧ row ≤ nls ps.flatten) ∧ u = .tuple #[.slice none 0 0, .int .i64 1]) ∨ ((St.Right tab ∧ 0 ≤ row ∧ row ≤ nls ps.flatten) ∧ ∃ x : Value, u = .tuple #[x, .int .i64 0] ∧ Sl w' x 4 encG ((rngs ps.flatten (inds tab ps.flatten) (nls ps.flatten + 1)).filter (keepR row)))) := by
  refine S.outline_Around.call ?_
  unfold S.outline_Around
  have hle := hp.le
  have hnl := nls_le ps.flatten
  refine sBox_new (cs := [.int .i64 row]) rfl fun b5 w1 hb5 hs1 e1 hk5 => ?_
  refine (oranges_spec (tab := tab) (hG.ext e1) (h.ext e1) hp).mono ?_
  rintro u w2 ⟨e2, hu⟩
  have E2 := e1.trans e2
  rcases hu with ⟨hr, rfl⟩ | ⟨ht, x, rfl, hx⟩
  · rw [sExtract_0, sExtract_1, sBin_neq, sIf_not]
    exact ⟨fun _ => ⟨E2, .inl ⟨fun h => hr h.1, rfl⟩⟩, fun h => absurd h (by decide)⟩
  rw [sExtract_0, sExtract_1, sBin_neq, sIf_not]
  refine ⟨fun h => absurd rfl h, fun _ => ?_⟩
  refine DrawS.ext ?_
  have E : Ext w2 w2.drew := (Ext.refl w2).drew
  have k2 := hk5.ext e2
  rw [stillS_cell (v := .int .i64 row) S.tcell_int (k2.cells.fst rfl) E, stillS_eq (fun w' h1 K => sBin_lss _ _) E, sIf_dec]
  refine ⟨fun h0 => ⟨E2.trans E, .inl ⟨fun h => by omega, rfl⟩⟩, fun h0 => ?_⟩
  rw [stillS_cell (v := .int .i64 row) S.tcell_int (k2.cells.fst rfl) E]
  refine (lrows_spec (h.ext (E2.trans E)) hp).mono ?_
  rintro u w3 ⟨e3, rfl⟩
  have e23 := E.trans e3
  refine ⟨e23, ?_⟩
  rw [stillS_eq (fun w' h1 K => sBin_geq _ _) e23, sIf_dec]
  refine ⟨fun h1 => ⟨E2.trans e23, .inl ⟨fun h => by omega, rfl⟩⟩, fun h1 => ?_⟩
  rw [sFunc_mk]
  have hrl := rngs_len ps.flatten (inds tab ps.flatten) (nls ps.flatten + 1)
  refine (ddel_spec (b := b5) (row := row) (e2.trans e23) hk5.cells (hx.ext e23) (by omega)).mono ?_
  rintro u w4 ⟨e4, hu⟩
  exact ⟨e1.trans e4, .inr ⟨⟨ht, by omega, by omega⟩, u, rfl, hu.sl encG_ok⟩⟩

/-! ## The laws -/
theorem rnew_one {w : World} {s : List UInt8} (hM : Mo w) (hs : s.length ≤ 20000) : sCall Tryd.prog S.rope_New.n [tv s] w fun u w' => Ext w w' ∧ ∃ b ps, u = .tuple #[.pointer (some ⟨b, 0, none⟩), .int .i64 0] ∧ Rp w' (.pointer (some ⟨b, 0, none⟩)) ps ∧ RpOk ps ∧ ps.flatten = runes s := by
  have hr := runes_len s
  refine (rnew_spec hM (by omega)).mono ?_
  rintro u w' ⟨e, hu⟩
  rcases hu with ⟨h, _⟩ | ⟨h, b, rfl, hb⟩
  · omega
  · exact ⟨e, b, _, rfl, hb, ⟨pcs_ok (runes_ok s), by rw [pcs_join]; exact h⟩, pcs_join _⟩
abbrev Yo (w : World) : K1 := fun u w' => Ext w w' ∧ u = .bool true
theorem one_runes : runes [97, 10, 32, 32, 98, 10, 99] = [97, 10, 32, 32, 98, 10, 99] := by
  have : txt [97, 10, 32, 32, 98, 10, 99] = [97, 10, 32, 32, 98, 10, 99] := by decide +kernel
  rw [← this]
  exact runes_of (by decide)
abbrev oneL : List Int := [97, 10, 32, 32, 98, 10, 99]
theorem one_nls : nls oneL = 2 := rfl
theorem one_b0 : beh oneL 0 = 0 := beh_zero _
theorem one_b1 : beh oneL 1 = 2 := beh_next (l := oneL) (i := 1) rfl
theorem one_b2 : beh oneL 2 = 6 := beh_next (l := oneL) (i := 5) rfl
theorem one_e0 : endL oneL 0 = 1 := end_at (l := oneL) (i := 1) rfl
theorem one_e1 : endL oneL 1 = 5 := end_at (l := oneL) (i := 5) rfl
theorem one_e2 : endL oneL 2 = 7 := by unfold endL; rw [if_neg (by decide)]; rfl
theorem fPl_space : fPl 32 = 1 := by
  unfold fPl St.ofT
  have h1 : ¬ St.inR St.zeroL 32 := by
    rintro ⟨x, hx, h1, h2⟩
    simp [St.zeroL] at hx
    rcases hx with rfl | rfl | rfl <;> omega
  have h2 : ¬ St.inR St.wideL 32 := by
    rintro ⟨x, hx, h1, h2⟩
    simp [St.wideL] at hx
    rcases hx with rfl | rfl | rfl | rfl | rfl | rfl | rfl | rfl <;> omega
  rw [if_neg h1, if_neg h2]
theorem one_inds : inds 4 oneL = [0, 2, 0] := by
  have r0 : rowL oneL 0 = [97] := by unfold rowL; rw [one_b0, one_e0]; rfl
  have r1 : rowL oneL 1 = [32, 32, 98] := by unfold rowL; rw [one_b1, one_e1]; rfl
  have r2 : rowL oneL 2 = [99] := by unfold rowL; rw [one_b2, one_e2]; rfl
  have i0 : indP 4 [97] = 0 := indP_some (i := 0) (r := 97) rfl (by decide) (fun j hj => by omega)
  have i2 : indP 4 [99] = 0 := indP_some (i := 0) (r := 99) rfl (by decide) (fun j hj => by omega)
  have i1 : indP 4 [32, 32, 98] = 2 := by
    rw [indP_some (i := 2) (r := 98) rfl (by decide) (fun j hj r' hr' => by
      rcases (by omega : j = 0 ∨ j = 1) with rfl | rfl <;> (cases hr'; decide))]
    rw [St.pos_succ (r := 32) rfl, St.pos_succ (r := 32) rfl]
    unfold St.siz
    rw [if_neg (by decide), if_neg (by decide), fPl_space]
    rfl
  show (List.range 3).map (fun k => indP 4 (rowL oneL k)) = [0, 2, 0]
  rw [show List.range 3 = [0, 1, 2] from rfl]
  simp only [List.map_cons, List.map_nil, r0, r1, r2, i0, i1, i2]
theorem one_l0 : lastI [0, 2, 0] 0 = 1 := lastI_eq ⟨by omega, by decide, .inr ⟨by omega, 0, rfl, by decide, ⟨2, rfl, by decide⟩, fun i m h1 h2 h3 => by
  obtain rfl : i = 1 := by omega
  cases h3
  omega⟩, fun to h1 h2 => by
  have h2 : to < 3 := h2
  obtain rfl : to = 2 := by omega
  rintro ⟨n, hn, _, _, h5⟩
  cases hn
  exact h5 2 0 (by omega) (by omega) rfl ⟨by omega, by omega⟩⟩
theorem one_l1 : lastI [0, 2, 0] 1 = 1 := lastI_eq ⟨by omega, by decide, .inl rfl, fun to h1 h2 => by
  have h2 : to < 3 := h2
  obtain rfl : to = 2 := by omega
  rintro ⟨n, hn, _, _, h5⟩
  cases hn
  exact h5 2 0 (by omega) (by omega) rfl ⟨by omega, by omega⟩⟩
theorem one_l2 : lastI [0, 2, 0] 2 = 2 := lastI_eq ⟨by omega, by decide, .inl rfl, fun to h1 h2 => by
  have h2 : to < 3 := h2
  omega⟩
theorem one_rngs : rngs oneL [0, 2, 0] 3 = [(0, 1, 1, 5)] := by
  have h0 : rngs oneL [0, 2, 0] 0 = [] := rfl
  rw [rngs_succ, rngs_succ, rngs_succ, h0, one_l0, one_l1, one_l2, if_pos (by decide), if_neg (by decide), if_neg (by decide)]
  unfold mkR
  rw [one_l0, one_e0, one_e1]
  rfl
theorem sBin_rg {w : World} {K : K1} {cx cy : Bool} (x y : Rg4) : sBin Tryd.prog .eql S.T.outline_Range cx cy (.agg (encG x).toArray) (.agg (encG y).toArray) w K = K (.bool (decide (x = y))) w := by
  obtain ⟨r, hr, he, _⟩ := sBin_deep (P := Tryd.prog) (cx := cx) (cy := cy) (cs := encG x) (ds := encG y) S.tdq_outline_Range S.taq_outline_Range S.tgq_outline_Range (by kernel_rfl) (by kernel_rfl)
  rw [he]
  congr 2
  rw [Bool.eq_iff_iff, hr, encG_inj, decide_eq_true_eq]
theorem sBin_rgne {w : World} {K : K1} {cx cy : Bool} (x y : Rg4) : sBin Tryd.prog .neq S.T.bodkinref43_Range cx cy (.agg (encG x).toArray) (.agg (encG y).toArray) w K = K (.bool (!decide (x = y))) w := by
  obtain ⟨r, hr, _, he⟩ := sBin_deep (P := Tryd.prog) (cx := cx) (cy := cy) (cs := encG x) (ds := encG y) S.tdq_bodkinref43_Range S.taq_bodkinref43_Range S.tgq_bodkinref43_Range (by kernel_rfl) (by kernel_rfl)
  rw [he]
  congr 3
  rw [Bool.eq_iff_iff, hr, encG_inj, decide_eq_true_eq]
/-- The tables in memory. -/
structure Mem (w : World) : Prop where
  m : Mo w
  g : St.Glob w
theorem Mem.ext {w w' : World} (h : Mem w) (e : Ext w w') : Mem w' := ⟨h.m.ext e, h.g.ext e⟩
theorem right4 : St.Right 4 := ⟨by decide, by decide⟩
theorem lawone_spec {w : World} (hM : Mem w) : sCall Tryd.prog S.bodkinlaw43_one.n [] w (Yo w) := by
  refine S.bodkinlaw43_one.call ?_
  unfold S.bodkinlaw43_one
  refine (rnew_one (s := [97, 10, 32, 32, 98, 10, 99]) hM.m (by decide)).mono ?_
  rintro u w1 ⟨e1, b, ps, rfl, hr, hp, hfl⟩
  rw [one_runes] at hfl
  rw [sExtract_0, sExtract_1]
  refine (oranges_spec (tab := 4) (hM.g.ext e1) hr hp).mono ?_
  rintro u w2 ⟨e2, hu⟩
  rcases hu with ⟨h, _⟩ | ⟨_, x, rfl, hx⟩
  · exact absurd right4 h
  rw [hfl, one_inds, one_nls, one_rngs] at hx
  have hxs := hx.sl encG_ok
  obtain ⟨bb, of, hel, hc⟩ := hxs.el (i := 0) (x := (0, 1, 1, 5)) rfl
  rw [sExtract_0, sExtract_1, sBin_eql, sIf_dec]
  refine ⟨fun _ => ?_, fun h => absurd rfl h⟩
  rw [sBin_eql, sIf_dec]
  refine ⟨fun _ => ?_, fun h => absurd rfl h⟩
  rw [sLen_sl S.tel_L_outline_Range hxs, sBin_eql, sIf_dec]
  refine ⟨fun _ => ?_, fun h => absurd rfl h⟩
  rw [sIdxA_sl (i := 0) (z := 0) S.tel_L_outline_Range S.tsz_outline_Range (by omega) hxs (x := (0, 1, 1, 5)) rfl rfl, hel, sLoad_agg (cs := encG (0, 1, 1, 5)) S.tagg_outline_Range hc rfl,
    sBuild_of (cs := encP2 1 5) (lp := [(0, [.int .i64 1]), (1, [.int .i64 5])]) S.tze_api_Span S.tpl_api_Span rfl rfl,
    sBuild_of (cs := encG (0, 1, 1, 5)) (lp := [(0, [.int .i64 0]), (1, [.int .i64 1]), (2, encP2 1 5)]) S.tze_outline_Range S.tpl_outline_Range rfl rfl, sBin_rg]
  exact ⟨e1.trans e2, by simp⟩
theorem endOne {w w' : World} (hM : Mem w) (e : Ext w w') : sCall Tryd.prog S.bodkinlaw43_one.n [] w' (Yo w) := (lawone_spec (hM.ext e)).mono fun _ _ h => ⟨e.trans h.1, h.2⟩
theorem dright_spec {w : World} (tab : Int) : sCall Tryd.prog S.bodkinref17_Right.n [.int .i64 tab] w fun u w' => w' = w ∧ ∃ b, u = .bool b ∧ (b = true ↔ St.Right tab) := St.refright_spec tab
theorem outlineIndents_spec {w : World} (hM : Mem w) (s : List UInt8) (tab : Int) : S.bodkinlaw43_OutlineIndents (Yo w) (tv s) (.int .i64 tab) w := by
  unfold S.bodkinlaw43_OutlineIndents
  rw [sLen_str tstr, sBin_gtr, sIf_dec]
  refine ⟨fun _ => endOne hM (Ext.refl w), fun hs => ?_⟩
  have hrl := runes_len s
  refine (rnew_one hM.m (by omega)).mono ?_
  rintro u w1 ⟨e1, b, ps, rfl, hr, hp, hfl⟩
  rw [sExtract_0, sExtract_1]
  refine (oindents_spec (tab := tab) (hM.g.ext e1) hr hp).mono ?_
  rintro u w2 ⟨e2, hu⟩
  have E2 := e1.trans e2
  rcases hu with ⟨h, rfl⟩ | ⟨ht, x, rfl, hx⟩
  · rw [sExtract_0, sExtract_1]
    refine (dright_spec tab).mono ?_
    rintro u w3 ⟨rfl, q, rfl, hq⟩
    have hqf : q = false := by
      cases q
      · rfl
      · exact absurd (hq.1 rfl) h
    rw [hqf, sUn_not, Bool.not_false, sIf_true, sBin_eql, sIf_dec]
    refine ⟨fun _ => ?_, fun h => absurd rfl h⟩
    rw [sLen_sl S.tel_L_int (Sl.nil w3 1 encZ), sBin_eql, sIf_dec]
    exact ⟨fun _ => endOne hM E2, fun h => absurd rfl h⟩
  · rw [sExtract_0, sExtract_1]
    refine (dright_spec tab).mono ?_
    rintro u w3 ⟨rfl, q, rfl, hq⟩
    rw [hq.2 ht, sUn_not, Bool.not_true, sIf_false, sBin_eql, sIf_dec]
    refine ⟨fun _ => ?_, fun h => absurd rfl h⟩
    rw [sBin_eql, sIf_dec]
    refine ⟨fun _ => ?_, fun h => absurd rfl h⟩
    refine (ddecode_spec s (by omega)).mono ?_
    rintro d w4 ⟨e4, hd⟩
    refine (dindents_spec (tab := tab) (hd.sl encRn_ok) (by omega) ht).mono ?_
    rintro y w5 ⟨e5, hy⟩
    rw [hfl] at hx
    refine (intsEq_spec ((hx.sl encZ_ok).ext (e4.trans e5)) (hy.sl encZ_ok)).mono ?_
    rintro u w6 ⟨e6, r, rfl, hrr⟩
    rw [hrr.2 rfl, sIf_true]
    exact endOne hM (((E2.trans e4).trans e5).trans e6)
theorem dref_spec {w : World} (x : Rg4) : sCall Tryd.prog S.bodkinlaw43_ref.n [.agg (encG x).toArray] w fun u w' => Ext w w' ∧ u = .agg (encG x).toArray := by
  refine S.bodkinlaw43_ref.call ?_
  unfold S.bodkinlaw43_ref
  refine sBox_new (cs := encG x) rfl fun b1 w1 hb1 hs1 e1 hk1 => ?_
  refine sAlloc_new S.tze_bodkinref43_Range fun b2 w2 hb2 hs2 e2 hk2 => ?_
  have k1 := hk1.ext e2
  have s1 := e1.size
  rw [sFldA_ptr S.tfl_outline_Range_Row, sLoad_cell (v := .int .i64 x.1) S.tcell_int (k1.cells.at 0 rfl), sFldA_ptr S.tfl_outline_Range_Last, sLoad_cell (v := .int .i64 x.2.1) S.tcell_int (k1.cells.at 1 rfl), sFldA_ptr S.tfl_outline_Range_Fold, sLoad_agg (cs := encP2 x.2.2.1 x.2.2.2) S.tagg_api_Span (k1.cells.sub 2 2) rfl,
    sBuild_of (cs := encG x) (lp := [(0, [.int .i64 x.1]), (1, [.int .i64 x.2.1]), (2, encP2 x.2.2.1 x.2.2.2)]) S.tze_bodkinref43_Range S.tpl_bodkinref43_Range rfl rfl]
  refine sStore_blk S.tsz_bodkinref43_Range (by decide) hk2 (vs := encG x) rfl rfl (by simp) (encG_one x) fun w3 hs3 hg3 hk3 => ?_
  rw [sLoad_agg (cs := encG x) S.tagg_bodkinref43_Range hk3.cells rfl]
  exact ⟨rfl, (e1.trans e2).wr hg3 (by rintro _ ⟨⟩; omega), rfl⟩
theorem filter_at {α : Type} {p : α → Bool} {l : List α} {i : Nat} {x : α} (h : l[i]? = some x) (hp : p x = true) : (l.filter p)[((l.take i).filter p).length]? = some x := by
  have e : l = l.take i ++ (x :: l.drop (i + 1)) := by rw [← drop_cons_of h, List.take_append_drop]
  conv => lhs; arg 1; rw [e]
  rw [List.filter_append, List.getElem?_append_right (Nat.le_refl _), Nat.sub_self, List.filter_cons, if_pos hp]
  rfl
theorem outlineRanges_spec {w : World} (hM : Mem w) (s : List UInt8) (tab row : Int) : S.bodkinlaw43_OutlineRanges (Yo w) (tv s) (.int .i64 tab) (.int .i64 row) w := by
  unfold S.bodkinlaw43_OutlineRanges
  rw [sLen_str tstr, sBin_gtr, sIf_dec]
  refine ⟨fun _ => endOne hM (Ext.refl w), fun hs => ?_⟩
  have hrl := runes_len s
  refine (rnew_one hM.m (by omega)).mono ?_
  rintro u w1 ⟨e1, b, ps, rfl, hr, hp, hfl⟩
  rw [sExtract_0, sExtract_1]
  refine (oranges_spec (tab := tab) (hM.g.ext e1) hr hp).mono ?_
  rintro u w2 ⟨e2, hu⟩
  have E2 := e1.trans e2
  obtain ⟨x, z, rfl, hx⟩ : ∃ (x : Value) (z : Int), u = .tuple #[x, .int .i64 z] ∧ ((¬ St.Right tab ∧ x = .slice none 0 0 ∧ z = 1) ∨ (St.Right tab ∧ z = 0 ∧ Row w2 w1.heap.size S.T.outline_Range 4 x encG (rngs ps.flatten (inds tab ps.flatten) (nls ps.flatten + 1)))) := by
    rcases hu with ⟨h, rfl⟩ | ⟨h, x, rfl, h3⟩
    · exact ⟨_, _, rfl, .inl ⟨h, rfl, rfl⟩⟩
    · exact ⟨_, _, rfl, .inr ⟨h, rfl, h3⟩⟩
  clear hu
  rw [sExtract_0, sExtract_1]
  refine (oaround_spec (tab := tab) (row := row) (hM.g.ext E2) (hr.ext e2) hp).mono ?_
  rintro u w3 ⟨e3, hu⟩
  have E3 := E2.trans e3
  obtain ⟨a, g, rfl, ha⟩ : ∃ (a : Value) (g : Int), u = .tuple #[a, .int .i64 g] ∧ ((¬ (St.Right tab ∧ 0 ≤ row ∧ row ≤ nls ps.flatten) ∧ a = .slice none 0 0 ∧ g = 1) ∨ ((St.Right tab ∧ 0 ≤ row ∧ row ≤ nls ps.flatten) ∧ g = 0 ∧ Sl w3 a 4 encG ((rngs ps.flatten (inds tab ps.flatten) (nls ps.flatten + 1)).filter (keepR row)))) := by
    rcases hu with ⟨h, rfl⟩ | ⟨h, x, rfl, h3⟩
    · exact ⟨_, _, rfl, .inl ⟨h, rfl, rfl⟩⟩
    · exact ⟨_, _, rfl, .inr ⟨h, rfl, h3⟩⟩
  clear hu
  rw [sExtract_0, sExtract_1]
  refine (dright_spec tab).mono ?_
  rintro u w4 ⟨rfl, q, rfl, hq⟩
  rw [sUn_not, sIf_bool]
  refine ⟨fun hF => ?_, fun hT => ?_⟩
  · have hno : ¬ St.Right tab := fun h => by rw [hq.2 h] at hF; cases hF
    rcases hx with ⟨_, rfl, rfl⟩ | ⟨h, _⟩
    case inr => exact absurd h hno
    rcases ha with ⟨_, rfl, rfl⟩ | ⟨h, _⟩
    case inr => exact absurd h.1 hno
    rw [sBin_eql, sIf_dec]
    refine ⟨fun _ => ?_, fun h => absurd rfl h⟩
    rw [sBin_eql, sIf_dec]
    refine ⟨fun _ => ?_, fun h => absurd rfl h⟩
    rw [sLen_sl S.tel_L_outline_Range (Sl.nil w4 4 encG), sBin_eql, sIf_dec]
    refine ⟨fun _ => ?_, fun h => absurd rfl h⟩
    rw [sLen_sl S.tel_L_outline_Range (Sl.nil w4 4 encG), sBin_eql, sIf_dec]
    exact ⟨fun _ => endOne hM E3, fun h => absurd rfl h⟩
  have ht : St.Right tab := hq.1 (by simpa using hT)
  rcases hx with ⟨h, _⟩ | ⟨_, rfl, hx⟩
  · exact absurd ht h
  have hxs := (hx.sl encG_ok).ext e3
  have hlen := rngs_len ps.flatten (inds tab ps.flatten) (nls ps.flatten + 1)
  have hnl := nls_le ps.flatten
  rw [← hfl] at hrl
  have hex : ∃ al : List Rg4, Sl w4 a 4 encG al ∧ ((¬ (0 ≤ row ∧ row ≤ nls ps.flatten) ∧ al = [] ∧ g = 1) ∨ ((0 ≤ row ∧ row ≤ nls ps.flatten) ∧ al = (rngs ps.flatten (inds tab ps.flatten) (nls ps.flatten + 1)).filter (keepR row) ∧ g = 0)) := by
    rcases ha with ⟨h, rfl, rfl⟩ | ⟨h, rfl, h3⟩
    · exact ⟨[], Sl.nil w4 4 encG, .inl ⟨fun h2 => h ⟨ht, h2⟩, rfl, rfl⟩⟩
    · exact ⟨_, h3, .inr ⟨h.2, rfl, rfl⟩⟩
  obtain ⟨al, hal, hag⟩ := hex
  refine (ddecode_spec s (by omega)).mono ?_
  rintro d w5 ⟨e5, hd⟩
  rw [← hfl] at hd
  have hds := hd.sl encRn_ok
  refine (dranges_spec (tab := tab) hds (by omega) ht).mono ?_
  rintro y w6 ⟨e6, hy⟩
  have hys := hy.sl encG_ok
  have e46 := e5.trans e6
  have E6 := E3.trans e46
  rw [sBin_neq, sIf_not]
  refine ⟨fun h => absurd rfl h, fun _ => ?_⟩
  rw [sBin_neq, sIf_not]
  refine ⟨fun h => absurd rfl h, fun _ => ?_⟩
  rw [sLen_sl S.tel_L_outline_Range (hxs.ext e46), sLen_sl S.tel_L_bodkinref43_Range hys, sBin_neq, sIf_not]
  refine ⟨fun h => absurd rfl h, fun _ => ?_⟩
  generalize hwant : rngs ps.flatten (inds tab ps.flatten) (nls ps.flatten + 1) = want at *
  refine JoinS.intro (fun us w' => Ext w6 w' ∧ ∃ qb : Bool, us = [.bool qb] ∧ (qb = true ↔ (0 ≤ row ∧ row ≤ nls ps.flatten))) ?_ ?_
  · rw [sBin_geq, sIf_dec]
    refine ⟨fun h0 => ?_, fun h0 => ⟨Ext.refl _, false, rfl, by simp only [Bool.false_eq_true, false_iff]; omega⟩⟩
    refine (dspans_spec (hds.ext e6) (by omega)).mono ?_
    rintro sp w7 ⟨e7, hsp⟩
    rw [sLen_sl S.tel_L_api_Span (hsp.sl encQ_ok), spans_len, sBin_lss]
    exact ⟨e7, _, rfl, by rw [decide_eq_true_eq]; omega⟩
  · rintro us vs w7 ⟨e7, there, rfl, hth⟩
    unfold S.bodkinlaw43_OutlineRanges_J1
    have e47 := e46.trans e7
    have E7 := E6.trans e7
    rw [Go.Lift.hd, sLen_sl S.tel_L_bodkinref43_Range (hys.ext e7)]
    refine LoopS.intro (fun us w8 => Ext w7 w8 ∧ ∃ (i k : Nat), us = [.int .i64 k, .int .i64 i] ∧ i ≤ want.length ∧ k = (if there then ((want.take i).filter (keepR row)).length else 0))
      (fun us _ => match us with | [_, .int _ a] => (want.length - a).toNat | _ => 0) ⟨Ext.refl _, 0, 0, rfl, Nat.zero_le _, by cases there <;> rfl⟩ ?_
    rintro us vs w8 ⟨e8, i, k, rfl, hi, hk⟩
    unfold S.bodkinlaw43_OutlineRanges_L2
    have e48 := e47.trans e8
    have E8 := E7.trans e8
    have hkle : k ≤ i := by
      rw [hk]
      split
      · exact Nat.le_trans (List.length_filter_le _ _) (by rw [List.length_take]; omega)
      · omega
    rw [Go.Lift.hd, Go.Lift.tl, Go.Lift.hd, sBin_lss, sIf_dec]
    refine ⟨fun hlt => ?_, fun hge => ?_⟩
    · obtain ⟨x1, hx1⟩ : ∃ x, want[i]? = some x := ⟨_, List.getElem?_eq_getElem (by omega)⟩
      obtain ⟨b1, o1, hel1, hc1⟩ := ((hys.ext e7).ext e8).el hx1
      obtain ⟨b2, o2, hel2, hc2⟩ := ((hxs.ext e48)).el hx1
      rw [sIdxA_sl S.tel_L_bodkinref43_Range S.tsz_bodkinref43_Range (by omega) ((hys.ext e7).ext e8) hx1 rfl, hel1, sLoad_agg (cs := encG x1) S.tagg_bodkinref43_Range hc1 rfl]
      refine sVar (vs := encG x1) S.tze_bodkinref43_Range S.tsz_bodkinref43_Range (by decide) rfl rfl (encG_one x1) fun b18 w9 hb18 hs9 e9 hk18 => ?_
      refine DrawS.ext ?_
      have E : Ext w9 w9.drew := (Ext.refl w9).drew
      rw [stillS_eq (fun w' h1 K => sIdxA_sl S.tel_L_outline_Range S.tsz_outline_Range (by omega) (((hxs.ext e48).ext e9).ext h1) hx1 rfl) E, hel2, stillS_agg (cs := encG x1) S.tagg_outline_Range (hc2.ext e9) rfl E, stillS_agg (cs := encG x1) S.tagg_bodkinref43_Range hk18.cells rfl E]
      refine (dref_spec x1).mono ?_
      rintro u w10 ⟨e10, rfl⟩
      have f10 := E.trans e10
      refine ⟨f10, ?_⟩
      rw [stillS_eq (fun w' h1 K => sBin_rgne _ _) f10, sIf_not]
      refine ⟨fun h => absurd rfl h, fun _ => ?_⟩
      have k18 := hk18.ext f10
      refine JoinS.intro (fun us w' => w' = w10 ∧ us = [.bool (there && keepR row x1)]) ?_ ?_
      · rw [sIf_bool]
        refine ⟨fun hth1 => ?_, fun hth0 => ⟨rfl, by rw [hth0]; rfl⟩⟩
        rw [sFldA_ptr S.tfl_bodkinref43_Range_Row, sLoad_cell (v := .int .i64 x1.1) S.tcell_int (k18.cells.at 0 rfl), sBin_leq, sIf_dec]
        refine ⟨fun h1 => ?_, fun h1 => ⟨rfl, ?_⟩⟩
        · rw [sFldA_ptr S.tfl_bodkinref43_Range_Last, sLoad_cell (v := .int .i64 x1.2.1) S.tcell_int (k18.cells.at 1 rfl), sBin_leq]
          refine ⟨rfl, ?_⟩
          unfold keepR delR
          rw [hth1, decide_eq_false (show ¬ row < x1.1 by omega)]
          congr 2
          by_cases h2 : row ≤ x1.2.1
          · rw [decide_eq_true h2, decide_eq_false (show ¬ x1.2.1 < row by omega)]; rfl
          · rw [decide_eq_false h2, decide_eq_true (show x1.2.1 < row by omega)]; rfl
        · unfold keepR delR
          rw [decide_eq_true (show row < x1.1 by omega)]
          simp
      · rintro us vs w10' ⟨rfl, rfl⟩
        unfold S.bodkinlaw43_OutlineRanges_J3
        have F10 := e8.trans (e9.trans f10)
        rw [Go.Lift.hd, sIf_bool]
        refine ⟨fun hT2 => ?_, fun hF2 => ?_⟩
        · obtain ⟨hth1, hke⟩ := Bool.and_eq_true_iff.1 hT2
          rw [if_pos hth1] at hk
          rcases hag with ⟨h, _⟩ | ⟨_, hale, _⟩
          · exact absurd (hth.1 hth1) h
          have hax : al[k]? = some x1 := by rw [hale, hk]; exact filter_at hx1 hke
          have hkl := (List.getElem?_eq_some_iff.1 hax).1
          have hal10 := ((hal.ext e48).ext e9).ext f10
          obtain ⟨b3, o3, hel3, hc3⟩ := hal10.el hax
          refine DrawS.ext ?_
          have E2' : Ext w10' w10'.drew := (Ext.refl w10').drew
          rw [stillS_eq (fun w' h1 K => sLen_sl S.tel_L_outline_Range (hal10.ext h1)) E2', stillS_eq (fun w' h1 K => sBin_geq _ _) E2', sIf_dec]
          refine ⟨fun h => by omega, fun _ => ?_⟩
          rw [stillS_eq (fun w' h1 K => sIdxA_sl S.tel_L_outline_Range S.tsz_outline_Range (by omega) (hal10.ext h1) hax rfl) E2', hel3, stillS_agg (cs := encG x1) S.tagg_outline_Range hc3 rfl E2', stillS_agg (cs := encG x1) S.tagg_bodkinref43_Range k18.cells rfl E2']
          refine (dref_spec x1).mono ?_
          rintro u w11 ⟨e11, rfl⟩
          have f11 := E2'.trans e11
          refine ⟨f11, ?_⟩
          rw [stillS_eq (fun w' h1 K => sBin_rgne _ _) f11, sIf_not]
          refine ⟨fun h => absurd rfl h, fun _ => ?_⟩
          rw [sBin_add _ _ ⟨by omega, by omega⟩, sBin_add _ _ ⟨by omega, by omega⟩]
          refine ⟨⟨F10.trans f11, i + 1, k + 1, by simp, by omega, ?_⟩, by simp only []; omega⟩
          rw [if_pos hth1, take_succ_of hx1, List.filter_append, List.length_append, hk]
          simp [hke]
        · rw [sBin_add _ _ ⟨by omega, by omega⟩]
          refine ⟨⟨F10, i + 1, k, by simp, by omega, ?_⟩, by simp only []; omega⟩
          rw [hk]
          cases there with
          | false => rfl
          | true =>
            have hke : keepR row x1 = false := by simpa using hF2
            rw [if_pos rfl, if_pos rfl, take_succ_of hx1, List.filter_append, List.length_append]
            simp [hke]
    · obtain rfl : i = want.length := by omega
      rw [List.take_length] at hk
      have hka : k = al.length := by
        rcases hag with ⟨h, rfl, _⟩ | ⟨h, rfl, _⟩
        · have : there = false := by
            cases there
            · rfl
            · exact absurd (hth.1 rfl) h
          rw [hk, this]; rfl
        · rw [hk, if_pos (hth.2 h)]
      rw [sLen_sl S.tel_L_outline_Range (hal.ext e48), sBin_eql, sIf_dec]
      refine ⟨fun _ => ?_, fun h => absurd (by rw [hka]) h⟩
      have hg0 : (decide (g = 0) == there) = true := by
        rcases hag with ⟨h, _, rfl⟩ | ⟨h, _, rfl⟩
        · cases there
          · rfl
          · exact absurd (hth.1 rfl) h
        · rw [hth.2 h]; rfl
      have hg1 : (decide (g = 1) == !there) = true := by
        rcases hag with ⟨h, _, rfl⟩ | ⟨h, _, rfl⟩
        · cases there
          · rfl
          · exact absurd (hth.1 rfl) h
        · rw [hth.2 h]; rfl
      rw [sBin_eql, sBin_boolEq (by kernel_rfl), hg0, sIf_true, sBin_eql, sUn_not, sBin_boolEq (by kernel_rfl), hg1, sIf_true]
      exact endOne hM E8
end Go.Proofs.YtplpkeoakclobaaDoor
