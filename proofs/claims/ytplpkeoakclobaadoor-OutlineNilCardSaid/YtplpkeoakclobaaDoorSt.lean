/- Widths and stops: tables, cells of runes, of the program and of the document. Conditions: the two tables of widths in memory; at most a million runes. -/
import Derived.Test.YtplpkeoakclobaaDoorS
import Derived.Test.YtplpkeoakclobaaDoorRs2
namespace Go.Proofs.YtplpkeoakclobaaDoor.St
open Go Go.Lift Go.RowKit
abbrev Rg := Int × Int
def encR (x : Rg) : List Value := [.int .i32 x.1, .int .i32 x.2]
theorem encR_ok : Enc encR 2 := ⟨fun _ => rfl, fun x u hu => by simp [encR] at hu; rcases hu with rfl | rfl <;> rfl⟩
def inR (xs : List Rg) (r : Int) : Prop := ∃ x ∈ xs, x.1 ≤ r ∧ r ≤ x.2
instance (xs : List Rg) (r : Int) : Decidable (inR xs r) := inferInstanceAs (Decidable (∃ x ∈ xs, x.1 ≤ r ∧ r ≤ x.2))
/-- Rising and apart. -/
def Ris (xs : List Rg) : Prop := (∀ (i : Nat) (x : Rg), xs[i]? = some x → x.1 ≤ x.2) ∧ ∀ (i j : Nat) (x y : Rg), xs[i]? = some x → xs[j]? = some y → i < j → x.2 < y.1

theorem in_spec {w : World} {v : Value} {xs : List Rg} (h : Sl w v 2 encR xs) (hr : Ris xs) (hs : xs.length ≤ 1000000) (r : Int) : sCall Tryd.prog S.width_in.n [v, .int .i32 r] w fun u w' => w' = w ∧ u = .bool (decide (inR xs r)) := by
  refine S.width_in.call ?_
  unfold S.width_in
  rw [sLen_sl S.tel_L_width_Range h]
  refine LoopS.intro (fun us w1 => w1 = w ∧ ∃ lo hi : Nat, us = [.int .i64 hi, .int .i64 lo, .bool false] ∧ lo ≤ hi ∧ hi ≤ xs.length ∧ (∀ (i : Nat) (x : Rg), xs[i]? = some x → i < lo → x.2 < r) ∧ (∀ (i : Nat) (x : Rg), xs[i]? = some x → hi ≤ i → r < x.1))
    (fun us _ => match us with | [.int _ a, .int _ b, _] => (a - b).toNat | _ => 0) ⟨rfl, 0, xs.length, rfl, Nat.zero_le _, Nat.le_refl _, fun i x _ hi => absurd hi (by omega), fun i x hx hi => ?_⟩ ?_
  · have := (List.getElem?_eq_some_iff.1 hx).1; omega
  rintro us vs w1 ⟨rfl, lo, hi, rfl, hlh, hhn, hlow, hhigh⟩
  have hlen := h.len_le
  unfold S.width_in_L1
  simp only [hd, tl, sBin_lss, sIf_dec]
  refine ⟨fun hlt => ?_, fun hge => ?_⟩
  · obtain ⟨x, hx⟩ : ∃ x, xs[(lo + hi) / 2]? = some x := ⟨_, List.getElem?_eq_getElem (by omega)⟩
    obtain ⟨b, o, hel, hc⟩ := h.el hx
    rw [sBin_add _ _ ⟨by omega, by omega⟩, sBin_quo _ _ (by omega) (by omega) (by omega), sIdxA_sl S.tel_L_width_Range S.tsz_width_Range (by omega) h hx (by omega), hel, sFldA_ptr S.tfl_width_Range_From,
      sLoad_cell S.tcell_int32 (hc.at 0 rfl), sBin_lss, sIf_dec, sIdxA_sl S.tel_L_width_Range S.tsz_width_Range (by omega) h hx (by omega), hel, sFldA_ptr S.tfl_width_Range_To, sLoad_cell S.tcell_int32 (hc.at 1 rfl), sBin_gtr, sIf_dec, sBin_add _ _ ⟨by omega, by omega⟩]
    have hmid : ((lo : Int) + hi) / 2 = (((lo + hi) / 2 : Nat) : Int) := by omega
    rw [hmid]
    refine ⟨fun h1 => ⟨⟨rfl, lo, (lo + hi) / 2, rfl, by omega, by omega, hlow, fun i y hy hi' => ?_⟩, by simp; omega⟩, fun h1 => ⟨fun h2 => ⟨⟨rfl, (lo + hi) / 2 + 1, hi, by simp, by omega, by omega, fun i y hy hi' => ?_, hhigh⟩, by simp; omega⟩, fun h2 => ⟨rfl, ?_⟩⟩⟩
    · by_cases e : i = (lo + hi) / 2
      · subst e; rw [hx] at hy; cases hy; exact h1
      · have := hr.2 _ _ x y hx hy (by omega); have := hr.1 _ x hx; omega
    · by_cases e : i = (lo + hi) / 2
      · subst e; rw [hx] at hy; cases hy; exact h2
      · have := hr.2 _ _ y x hy hx (by omega); have := hr.1 _ x hx; omega
    · congr 1
      symm
      rw [decide_eq_true_eq]
      exact ⟨x, List.mem_of_getElem? hx, by omega, by omega⟩
  · refine ⟨by trivial, ?_⟩
    congr 1
    symm
    rw [decide_eq_false_iff_not]
    rintro ⟨x, hx, h1, h2⟩
    obtain ⟨i, hi'⟩ := List.getElem?_of_mem hx
    by_cases e : i < lo
    · have := hlow i x hi' e; omega
    · have := hhigh i x hi' (by omega); omega
/-! ## The reference's 'in' -/
theorem refin_spec {w : World} {v : Value} {xs : List Rg} (h : Sl w v 2 encR xs) (hs : xs.length ≤ 1000000) (r : Int) : sCall Tryd.prog S.bodkinref02_in.n [v, .int .i32 r] w fun u w' => Ext w w' ∧ u = .bool (decide (inR xs r)) := by
  refine S.bodkinref02_in.call ?_
  unfold S.bodkinref02_in
  rw [sLen_sl S.tel_L_bodkinref02_Range h]
  refine LoopS.intro (fun us w1 => Ext w w1 ∧ ∃ i : Nat, us = [.int .i64 i] ∧ i ≤ xs.length ∧ (∀ (j : Nat) (x : Rg), xs[j]? = some x → j < i → ¬ (x.1 ≤ r ∧ r ≤ x.2)))
    (fun us _ => match us with | [.int _ a] => (xs.length - a).toNat | _ => 0) ⟨Ext.refl w, 0, rfl, Nat.zero_le _, fun j x _ hj => absurd hj (by omega)⟩ ?_
  rintro us vs w1 ⟨he, i, rfl, hi, hno⟩
  unfold S.bodkinref02_in_L1
  rw [hd, sBin_lss, sIf_dec]
  refine ⟨fun hlt => ?_, fun hge => ⟨he, ?_⟩⟩
  · obtain ⟨x, hx⟩ : ∃ x, xs[i]? = some x := ⟨_, List.getElem?_eq_getElem (by omega)⟩
    obtain ⟨b, o, hel, hc⟩ := (h.ext he).el hx
    rw [sIdxA_sl S.tel_L_bodkinref02_Range S.tsz_bodkinref02_Range (by omega) (h.ext he) hx rfl, hel, sLoad_agg S.tagg_bodkinref02_Range hc rfl]
    refine sVar S.tze_bodkinref02_Range S.tsz_bodkinref02_Range (by decide) rfl rfl (encR_ok.one x) fun b2 w2 _ _ he2 hk => ?_
    have hc2 := hk.cells
    rw [sFldA_ptr S.tfl_bodkinref02_Range_From, sLoad_cell S.tcell_int32 (hc2.at 0 rfl), sBin_geq, sIf_dec, sFldA_ptr S.tfl_bodkinref02_Range_To, sLoad_cell S.tcell_int32 (hc2.at 1 rfl), sBin_leq, sIf_dec, sBin_add _ _ ⟨by omega, by omega⟩]
    have hnext : ¬ (x.1 ≤ r ∧ r ≤ x.2) → (Ext w w2 ∧ ∃ i' : Nat, [Value.int .i64 ((i : Int) + 1)] = [.int .i64 i'] ∧ i' ≤ xs.length ∧ (∀ (j : Nat) (x : Rg), xs[j]? = some x → j < i' → ¬ (x.1 ≤ r ∧ r ≤ x.2))) ∧ (xs.length - ((i : Int) + 1)).toNat < (xs.length - (i : Int)).toNat := by
      intro hn
      refine ⟨⟨he.trans he2, i + 1, by simp, by omega, fun j y hy hj => ?_⟩, by omega⟩
      by_cases e : j = i
      · subst e; rw [hx] at hy; cases hy; exact hn
      · exact hno j y hy (by omega)
    refine ⟨fun h1 => ⟨fun h2 => ⟨he.trans he2, ?_⟩, fun h2 => hnext (by omega)⟩, fun h1 => hnext (by omega)⟩
    congr 1
    symm
    rw [decide_eq_true_eq]
    exact ⟨x, List.mem_of_getElem? hx, by omega, by omega⟩
  · congr 1
    symm
    rw [decide_eq_false_iff_not]
    rintro ⟨x, hx, h1, h2⟩
    obtain ⟨j, hj⟩ := List.getElem?_of_mem hx
    have := (List.getElem?_eq_some_iff.1 hj).1
    exact hno j x hj (by omega) ⟨h1, h2⟩

/-! ## Tables -/
/-- A table in memory, of either package: its ranges of no cells, and of two. -/
def TabR (w : World) (p : Value) (zs ws : List Rg) : Prop := ∃ b o z v, p = .pointer (some ⟨b, o, none⟩) ∧ Cells w b o [z, v] ∧ Sl w z 2 encR zs ∧ Sl w v 2 encR ws
theorem TabR.ext {w w' : World} {p : Value} {zs ws : List Rg} (h : TabR w p zs ws) (e : Ext w w') : TabR w' p zs ws := by
  obtain ⟨b, o, z, v, h1, h2, h3, h4⟩ := h
  exact ⟨b, o, z, v, h1, h2.ext e, h3.ext e, h4.ext e⟩
def ofT (zs ws : List Rg) (r : Int) : Int := if inR zs r then 0 else if inR ws r then 2 else 1
theorem ofT_le (zs ws : List Rg) (r : Int) : 0 ≤ ofT zs ws r ∧ ofT zs ws r ≤ 2 := by unfold ofT; split <;> (try split) <;> omega
structure Fine (zs ws : List Rg) : Prop where
  z : Ris zs
  w : Ris ws
  nz : zs.length ≤ 1000000
  nw : ws.length ≤ 1000000

theorem of_spec {w : World} {p : Value} {zs ws : List Rg} (h : TabR w p zs ws) (hf : Fine zs ws) (r : Int) : sCall Tryd.prog S.width_Table_Of.n [p, .int .i32 r] w fun u w' => w' = w ∧ u = .int .i64 (ofT zs ws r) := by
  obtain ⟨b, o, z, v, rfl, hc, hz, hv⟩ := h
  refine S.width_Table_Of.call ?_
  unfold S.width_Table_Of
  rw [sBin_ptr_eq S.tpt_P_width_Table, Option.isNone_some, sIf_false, sNil_ptr, sFldA_ptr S.tfl_width_Table_zero, sLoad_cell S.tcell_L_width_Range (hc.at 0 rfl)]
  refine (in_spec hz hf.z hf.nz r).mono ?_
  rintro u w' ⟨rfl, rfl⟩
  rw [sIf_dec]
  refine ⟨fun h1 => ⟨rfl, by simp [ofT, h1]⟩, fun h1 => ?_⟩
  rw [sNil_ptr, sFldA_ptr S.tfl_width_Table_wide, sLoad_cell S.tcell_L_width_Range (hc.at 1 rfl)]
  refine (in_spec hv hf.w hf.nw r).mono ?_
  rintro u w' ⟨rfl, rfl⟩
  rw [sIf_dec]
  exact ⟨fun h2 => ⟨rfl, by simp [ofT, h1, h2]⟩, fun h2 => ⟨rfl, by simp [ofT, h1, h2]⟩⟩
theorem of_nil_spec {w : World} (r : Int) : sCall Tryd.prog S.width_Table_Of.n [.pointer none, .int .i32 r] w fun u w' => w' = w ∧ u = .int .i64 1 := by
  refine S.width_Table_Of.call ?_
  unfold S.width_Table_Of
  rw [sBin_ptr_eq S.tpt_P_width_Table, Option.isNone_none, sIf_true]
  exact ⟨rfl, rfl⟩
theorem refof_spec {w : World} {p : Value} {zs ws : List Rg} (h : TabR w p zs ws) (nz : zs.length ≤ 1000000) (nw : ws.length ≤ 1000000) (r : Int) : sCall Tryd.prog S.bodkinref02_Table_Of.n [p, .int .i32 r] w fun u w' => Ext w w' ∧ u = .int .i64 (ofT zs ws r) := by
  obtain ⟨b, o, z, v, rfl, hc, hz, hv⟩ := h
  refine S.bodkinref02_Table_Of.call ?_
  unfold S.bodkinref02_Table_Of
  rw [sNil_ptr, sFldA_ptr S.tfl_bodkinref02_Table_Zero, sLoad_cell S.tcell_L_bodkinref02_Range (hc.at 0 rfl)]
  refine (refin_spec hz nz r).mono ?_
  rintro u w1 ⟨e1, rfl⟩
  rw [sIf_dec]
  refine ⟨fun h1 => ⟨e1, by simp [ofT, h1]⟩, fun h1 => ?_⟩
  rw [sNil_ptr, sFldA_ptr S.tfl_bodkinref02_Table_Wide, sLoad_cell S.tcell_L_bodkinref02_Range ((hc.ext e1).at 1 rfl)]
  refine (refin_spec (hv.ext e1) nw r).mono ?_
  rintro u w2 ⟨e2, rfl⟩
  rw [sIf_dec]
  exact ⟨fun h2 => ⟨e1.trans e2, by simp [ofT, h1, h2]⟩, fun h2 => ⟨e1.trans e2, by simp [ofT, h1, h2]⟩⟩

/-! ## Sums -/
def encI (k : IntKind) (x : Int) : List Value := [.int k x]
theorem encI_ok (k : IntKind) : Enc (encI k) 1 := ⟨fun _ => rfl, fun x u hu => by simp [encI] at hu; rw [hu]; rfl⟩
def sumF (f : Int → Int) (l : List Int) : Int := (l.map f).foldl (· + ·) 0
theorem sumF_snoc (f : Int → Int) (l : List Int) (x : Int) : sumF f (l ++ [x]) = sumF f l + f x := by simp [sumF]
theorem sumF_bd {f : Int → Int} (hf : ∀ x, 0 ≤ f x ∧ f x ≤ 2) (l : List Int) : 0 ≤ sumF f l ∧ sumF f l ≤ 2 * l.length := by
  have key : ∀ (l : List Int) (a : Int), a ≤ (l.map f).foldl (· + ·) a ∧ (l.map f).foldl (· + ·) a ≤ a + 2 * l.length := by
    intro l
    induction l with
    | nil => intro a; simp
    | cons x l ih => intro a; simp only [List.map_cons, List.foldl_cons, List.length_cons]; have := ih (a + f x); have := hf x; omega
  have := key l 0
  unfold sumF
  omega
theorem take_succ_of {α : Type} {l : List α} {i : Nat} {x : α} (h : l[i]? = some x) : l.take (i + 1) = l.take i ++ [x] := by
  rw [List.take_add_one, h]; rfl

end Go.Proofs.YtplpkeoakclobaaDoor.St
namespace Go.Proofs.YtplpkeoakclobaaDoor.St
open Go Go.Lift Go.RowKit
def zeroL : List Rg := [(768, 879), (8203, 8207), (65024, 65039)]
def wideL : List Rg := [(4352, 4447), (11904, 12350), (12353, 19903), (19968, 40959), (44032, 55203), (63744, 64255), (65280, 65376), (127744, 128591)]
theorem ris_of (l : List Rg) (h : (∀ i, i < l.length → (l.getD i (0, 0)).1 ≤ (l.getD i (0, 0)).2) ∧ ∀ i, i < l.length → ∀ j, j < l.length → i < j → (l.getD i (0, 0)).2 < (l.getD j (0, 0)).1) : Ris l := by
  refine ⟨fun i x hx => ?_, fun i j x y hx hy hij => ?_⟩
  · have hi := (List.getElem?_eq_some_iff.1 hx).1
    have := h.1 i hi
    rw [List.getD_eq_getElem?_getD, hx] at this
    exact this
  · have hi := (List.getElem?_eq_some_iff.1 hx).1
    have hj := (List.getElem?_eq_some_iff.1 hy).1
    have := h.2 i hi j hj hij
    rw [List.getD_eq_getElem?_getD, List.getD_eq_getElem?_getD, hx, hy] at this
    exact this
theorem fine_plain : Fine zeroL wideL :=
  ⟨ris_of _ (by decide), ris_of _ (by decide), by decide, by decide⟩
/-- The two tables of the package. -/
def Glob (w : World) : Prop := Cells w 0 0 (zeroL.flatMap encR) ∧ Cells w 1 0 (wideL.flatMap encR)
theorem Glob.ext {w w' : World} (h : Glob w) (e : Ext w w') : Glob w' := ⟨h.1.ext e, h.2.ext e⟩

/-- One range more: the three operations 'variable, literal, append' of both loops. -/
theorem push_spec {w w0 : World} {P : Program} {K : K1} {base : Nat} {v : Value} {xs : List Rg} {x : Rg} (hP : P = Tryd.prog) (hown : Own w base S.T.width_Range 2 v encR xs) (hb : base ≤ w.heap.size) (he : Ext w0 w) (hb0 : w0.heap.size ≤ base) (hn : xs.length ≤ 1000)
    (h : ∀ v' w', Own w' base S.T.width_Range 2 v' encR (xs ++ [x]) → Ext w0 w' → w.grownBy w' v.ownBlock → K v' w') :
    sBuildSlice P S.T.L_width_Range 1 [(0, .agg (encR x).toArray)] w fun t w => sBuiltin P .append [S.T.L_width_Range, S.T.L_width_Range] S.T.L_width_Range [v, t] w K := by
  subst hP
  refine sBuildSlice_new (lp := [(0, encR x)]) (cs := encR x) S.tel_L_width_Range S.tsz_width_Range (by decide) S.tze_width_Range (by decide) rfl rfl fun b w1 hb1 hs1 he1 hk1 => ?_
  have hsl : Sl w1 (.slice (some ⟨b, 0, none⟩) 1 1) 2 encR [x] := Blk.sl (xs := [x]) (by simpa using hk1) encR_ok (by simp [maxLen])
  refine sAppend_own S.tel_L_width_Range S.tsz_width_Range (by decide) S.tze_width_Range rfl encR_ok (hown.ext he1) (by have := he1.size; omega) hsl (by have : maxLen = 9223372036854775807 := rfl; simp; omega) (by rw [S.tby_width_Range]; simp; omega) fun v' w2 ho2 hg2 => ?_
  refine h v' w2 ho2 ((he.trans he1).wr hg2 fun g hg => ?_) ?_
  · have := hown.lt g hg; omega
  · exact ⟨hg2.os.trans he1.os, hg2.tape.trans he1.tape, hg2.output.trans he1.output, Nat.le_trans he1.size hg2.size, fun k hk hne => (hg2.block k (by have := he1.size; omega) hne).trans (he1.block k hk)⟩

theorem plain_spec {w : World} (hG : Glob w) : sCall Tryd.prog S.width_Plain.n [] w fun p w' => Ext w w' ∧ TabR w' p zeroL wideL := by
  refine S.width_Plain.call ?_
  unfold S.width_Plain
  refine sAlloc_new S.tze_width_Table fun bt w1 hb1 hs1 he1 hk1 => ?_
  rw [sLoad_agg S.tagg_A3_width_Range (hG.1.ext he1) rfl]
  refine LoopS.intro (fun us w2 => ∃ i : Nat, us = [.int .i64 i] ∧ i ≤ 3 ∧ Ext w w2 ∧ ∃ zv, Blk w2 bt [zv, .slice none 0 0] ∧ Own w2 w1.heap.size S.T.width_Range 2 zv encR (zeroL.take i) ∧ w1.heap.size ≤ w2.heap.size)
    (fun us _ => match us with | [.int _ a] => (3 - a).toNat | _ => 0) ⟨0, rfl, by omega, he1, .slice none 0 0, hk1, Own.nil _ _ _ _ _, Nat.le_refl _⟩ ?_
  rintro us vs w2 ⟨i, rfl, hi, he2, zv, hk2, ho2, hs2⟩
  unfold S.width_Plain_L1
  rw [hd, sBin_lss, sIf_dec]
  refine ⟨fun hlt => ?_, fun hge => ?_⟩
  · obtain ⟨x, hx⟩ : ∃ x, zeroL[i]? = some x := ⟨_, List.getElem?_eq_getElem (by simp [zeroL]; omega)⟩
    rw [sIdx_agg S.tar_A3_width_Range S.tagg_width_Range (i := i) (by omega) rfl, encR_ok.extract hx]
    refine sVar S.tze_width_Range S.tsz_width_Range (by decide) rfl rfl (encR_ok.one x) fun b3 w3 hb3 hs3 he3 hk3 => ?_
    have hk3t := hk2.ext he3
    rw [sFldA_ptr S.tfl_width_Table_zero, sLoad_cell S.tcell_L_width_Range (hk3t.cells.at 0 rfl), sLoad_agg S.tagg_width_Range hk3.cells rfl]
    refine push_spec (w0 := w) (base := w1.heap.size) (x := x) rfl (ho2.ext he3) (by have := he3.size; omega) (he2.trans he3) (by omega) (by rw [List.length_take]; omega) fun v' w4 ho4 he4 hg4 => ?_
    have hk4 : Blk w4 bt [zv, .slice none 0 0] := hk3t.wr hg4 (fun e => by have := (ho2.ext he3).lt bt e.symm; omega)
    rw [sFldA_ptr S.tfl_width_Table_zero]
    refine sStore_blk S.tsz_L_width_Range (by decide) hk4 ho4.shape.1 rfl (by simp) (by simpa using ho4.shape.2) fun w5 hs5 hg5 hk5 => ?_
    rw [sBin_add _ _ ⟨by omega, by omega⟩]
    refine ⟨⟨i + 1, by simp, by omega, he4.wr hg5 (by rintro _ ⟨rfl⟩; omega), v', hk5, ?_, ?_⟩, by simp only []; omega⟩
    · rw [take_succ_of hx]
      refine ho4.wr hg5 ?_
      cases hv : v'.ownBlock with
      | none => exact .inl rfl
      | some g => exact .inr (by intro e; cases e; have := ho4.lt bt hv; omega)
    · have := hg4.size; have := he3.size; omega
  · have hi3 : i = 3 := by omega
    subst hi3
    have hz2 : Own w2 w1.heap.size S.T.width_Range 2 zv encR zeroL := ho2
    rw [sLoad_agg S.tagg_A8_width_Range (hG.2.ext he2) rfl]
    refine LoopS.intro (fun us w3 => ∃ i : Nat, us = [.int .i64 i] ∧ i ≤ 8 ∧ Ext w w3 ∧ ∃ wv, Blk w3 bt [zv, wv] ∧ Own w3 w1.heap.size S.T.width_Range 2 zv encR zeroL ∧ Own w3 w2.heap.size S.T.width_Range 2 wv encR (wideL.take i) ∧ w2.heap.size ≤ w3.heap.size)
      (fun us _ => match us with | [.int _ a] => (8 - a).toNat | _ => 0) ⟨0, rfl, by omega, he2, .slice none 0 0, hk2, hz2, Own.nil _ _ _ _ _, Nat.le_refl _⟩ ?_
    rintro us vs w3 ⟨i, rfl, hi, he3, wv, hk3, hz3, ho3, hs3⟩
    have hbt := hk2.lt
    unfold S.width_Plain_L2
    rw [hd, sBin_lss, sIf_dec]
    refine ⟨fun hlt => ?_, fun hge => ?_⟩
    · obtain ⟨x, hx⟩ : ∃ x, wideL[i]? = some x := ⟨_, List.getElem?_eq_getElem (by simp [wideL]; omega)⟩
      rw [sIdx_agg S.tar_A8_width_Range S.tagg_width_Range (i := i) (by omega) rfl, encR_ok.extract hx]
      refine sVar S.tze_width_Range S.tsz_width_Range (by decide) rfl rfl (encR_ok.one x) fun b4 w4 hb4 hs4 he4 hk4 => ?_
      have hk4t := hk3.ext he4
      rw [sFldA_ptr S.tfl_width_Table_wide, sLoad_cell S.tcell_L_width_Range (hk4t.cells.at 1 rfl), sLoad_agg S.tagg_width_Range hk4.cells rfl]
      refine push_spec (w0 := w) (base := w2.heap.size) (x := x) rfl (ho3.ext he4) (by have := he4.size; omega) (he3.trans he4) (by have := he2.size; omega) (by rw [List.length_take]; omega) fun v' w5 ho5 he5 hg5 => ?_
      have hk5 : Blk w5 bt [zv, wv] := hk4t.wr hg5 (fun e => by have := (ho3.ext he4).lt bt e.symm; omega)
      have hz5 : Own w5 w1.heap.size S.T.width_Range 2 zv encR zeroL := by
        refine (hz3.ext he4).wr hg5 ?_
        cases hv : zv.ownBlock with
        | none => exact .inl rfl
        | some g => exact .inr (by intro e; have := hz2.lt g hv; have := (ho3.ext he4).lt g e.symm; omega)
      rw [sFldA_ptr S.tfl_width_Table_wide]
      refine sStore_blk S.tsz_L_width_Range (by decide) hk5 ho5.shape.1 rfl (by simp) (by simpa using ho5.shape.2) fun w6 hs6 hg6 hk6 => ?_
      rw [sBin_add _ _ ⟨by omega, by omega⟩]
      refine ⟨⟨i + 1, by simp, by omega, he5.wr hg6 (by rintro _ ⟨rfl⟩; omega), v', hk6, ?_, ?_, ?_⟩, by simp only []; omega⟩
      · refine hz5.wr hg6 ?_
        cases hv : zv.ownBlock with
        | none => exact .inl rfl
        | some g => exact .inr (by intro e; cases e; have := hz5.lt bt hv; omega)
      · rw [take_succ_of hx]
        refine ho5.wr hg6 ?_
        cases hv : v'.ownBlock with
        | none => exact .inl rfl
        | some g => exact .inr (by intro e; cases e; have := ho5.lt bt hv; omega)
      · have := hg5.size; have := he4.size; omega
    · have hi8 : i = 8 := by omega
      subst hi8
      exact ⟨he3, bt, 0, zv, wv, rfl, hk3.cells, hz3.sl encR_ok, Own.sl (xs := wideL) ho3 encR_ok⟩
theorem refplain_spec (w : World) : sCall Tryd.prog S.bodkinref02_Plain.n [] w fun p w' => Ext w w' ∧ TabR w' p zeroL wideL := by
  refine S.bodkinref02_Plain.call ?_
  unfold S.bodkinref02_Plain
  have bld : ∀ (x : Rg) (w : World) (K : K1), sBuild Tryd.prog S.T.bodkinref02_Range [(0, .int .i32 x.1), (1, .int .i32 x.2)] w K = K (.agg (encR x).toArray) w := fun x w K =>
    sBuild_of (lp := [(0, [.int .i32 x.1]), (1, [.int .i32 x.2])]) S.tze_bodkinref02_Range S.tpl_bodkinref02_Range rfl rfl
  rw [bld (768, 879), bld (8203, 8207), bld (65024, 65039)]
  refine sBuildSlice_new (lp := [(0, encR (768, 879)), (1, encR (8203, 8207)), (2, encR (65024, 65039))]) (cs := zeroL.flatMap encR) S.tel_L_bodkinref02_Range S.tsz_bodkinref02_Range (by decide) S.tze_bodkinref02_Range (by decide) rfl rfl fun b1 w1 hb1 hs1 he1 hk1 => ?_
  rw [bld (4352, 4447), bld (11904, 12350), bld (12353, 19903), bld (19968, 40959), bld (44032, 55203), bld (63744, 64255), bld (65280, 65376), bld (127744, 128591)]
  refine sBuildSlice_new (lp := [(0, encR (4352, 4447)), (1, encR (11904, 12350)), (2, encR (12353, 19903)), (3, encR (19968, 40959)), (4, encR (44032, 55203)), (5, encR (63744, 64255)), (6, encR (65280, 65376)), (7, encR (127744, 128591))]) (cs := wideL.flatMap encR)
    S.tel_L_bodkinref02_Range S.tsz_bodkinref02_Range (by decide) S.tze_bodkinref02_Range (by decide) rfl rfl fun b2 w2 hb2 hs2 he2 hk2 => ?_
  rw [sBuild_of (lp := [(0, [.slice (some ⟨b1, 0, none⟩) 3 3]), (1, [.slice (some ⟨b2, 0, none⟩) 8 8])]) (cs := [.slice (some ⟨b1, 0, none⟩) 3 3, .slice (some ⟨b2, 0, none⟩) 8 8]) S.tze_bodkinref02_Table S.tpl_bodkinref02_Table rfl rfl]
  refine sBox_new rfl fun b3 w3 hb3 hs3 he3 hk3 => ⟨(he1.trans he2).trans he3, b3, 0, _, _, rfl, hk3.cells, ?_, ?_⟩
  · exact Blk.sl (xs := zeroL) (hk1.ext (he2.trans he3)) encR_ok (by decide)
  · exact Blk.sl (xs := wideL) (hk2.ext he3) encR_ok (by decide)

end Go.Proofs.YtplpkeoakclobaaDoor.St
namespace Go.Proofs.YtplpkeoakclobaaDoor.St
open Go Go.Lift Go.RowKit

def siz (f : Int → Int) (tab r at_ : Int) : Int := if r = 9 then (if 64 ≤ at_ then 1 else tab - at_ % tab) else f r
def pos (f : Int → Int) (tab : Int) (ls : List Int) : Nat → Int
  | 0 => 0
  | i + 1 => match ls[i]? with | some r => pos f tab ls i + siz f tab r (pos f tab ls i) | none => pos f tab ls i
theorem pos_succ {f : Int → Int} {tab : Int} {ls : List Int} {i : Nat} {r : Int} (h : ls[i]? = some r) : pos f tab ls (i + 1) = pos f tab ls i + siz f tab r (pos f tab ls i) := by
  simp [pos, h]
structure Okt (f : Int → Int) (tab : Int) : Prop where
  hf : ∀ r, 0 ≤ f r ∧ f r ≤ 2
  ht : 1 ≤ tab ∧ tab ≤ 16
theorem siz_bd {f : Int → Int} {tab r at_ : Int} (h : Okt f tab) : 0 ≤ siz f tab r at_ ∧ siz f tab r at_ ≤ 16 := by
  have h1 := h.ht
  have h2 := h.hf r
  unfold siz
  have h3 := Int.emod_nonneg at_ (show tab ≠ 0 by omega)
  have h4 := Int.emod_lt_of_pos at_ (show 0 < tab by omega)
  split
  · split <;> omega
  · omega
theorem pos_bd {f : Int → Int} {tab : Int} {ls : List Int} (h : Okt f tab) (i : Nat) : 0 ≤ pos f tab ls i ∧ pos f tab ls i ≤ 16 * i := by
  induction i with
  | zero => simp [pos]
  | succ i ih =>
    cases hx : ls[i]? with
    | none => simp only [pos, hx]; omega
    | some r => rw [pos_succ hx]; have := siz_bd (r := r) (at_ := pos f tab ls i) h; omega
/-- The sizes of the first ones. -/
def szs (f : Int → Int) (tab : Int) (ls : List Int) (n : Nat) : List Int := (List.range n).map fun i => siz f tab (ls.getD i 0) (pos f tab ls i)
theorem szs_len {f : Int → Int} {tab : Int} {ls : List Int} {n : Nat} : (szs f tab ls n).length = n := by simp [szs]
theorem szs_succ {f : Int → Int} {tab : Int} {ls : List Int} {i : Nat} {r : Int} (h : ls[i]? = some r) : szs f tab ls (i + 1) = szs f tab ls i ++ [siz f tab r (pos f tab ls i)] := by
  unfold szs
  rw [List.range_succ, List.map_append]
  simp [h]
theorem szs_at {f : Int → Int} {tab : Int} {ls : List Int} {i n : Nat} {r : Int} (h : ls[i]? = some r) (hi : i < n) : (szs f tab ls n)[i]? = some (siz f tab r (pos f tab ls i)) := by
  unfold szs
  simp [hi, h]

/-- A table's value that answers in every world that has grown. -/
def OfE (p : Value) (f : Int → Int) (w : World) : Prop := ∀ w', Ext w w' → ∀ r, sCall Tryd.prog S.width_Table_Of.n [p, .int .i32 r] w' fun u w2 => w2 = w' ∧ u = .int .i64 (f r)
theorem OfE.ext {p : Value} {f : Int → Int} {w w' : World} (h : OfE p f w) (e : Ext w w') : OfE p f w' := fun w2 e2 => h w2 (e.trans e2)
theorem OfE.tab {p : Value} {w : World} {zs ws : List Rg} (h : TabR w p zs ws) (hf : Fine zs ws) : OfE p (ofT zs ws) w := fun _ e r => of_spec (h.ext e) hf r
theorem OfE.nil {w : World} : OfE (.pointer none) (fun _ => 1) w := fun _ _ r => of_nil_spec r

theorem right_spec {w : World} (tab : Int) : sCall Tryd.prog S.stops_right.n [.int .i64 tab] w fun u w' => w' = w ∧ ∃ b, u = .bool b ∧ (b = true ↔ 1 ≤ tab ∧ tab ≤ 16) := by
  refine S.stops_right.call ?_
  unfold S.stops_right
  rw [sBin_geq, sIf_dec, sBin_leq]
  refine ⟨fun h => ⟨rfl, _, rfl, ?_⟩, fun h => ⟨rfl, _, rfl, ?_⟩⟩
  · rw [decide_eq_true_eq]; omega
  · simp; omega
theorem refright_spec {w : World} (tab : Int) : sCall Tryd.prog S.bodkinref17_Right.n [.int .i64 tab] w fun u w' => w' = w ∧ ∃ b, u = .bool b ∧ (b = true ↔ 1 ≤ tab ∧ tab ≤ 16) := by
  refine S.bodkinref17_Right.call ?_
  unfold S.bodkinref17_Right
  rw [sBin_geq, sIf_dec, sBin_leq]
  refine ⟨fun h => ⟨rfl, _, rfl, ?_⟩, fun h => ⟨rfl, _, rfl, ?_⟩⟩
  · rw [decide_eq_true_eq]; omega
  · simp; omega
theorem size_spec {w : World} {p : Value} {f : Int → Int} {tab r at_ : Int} (ho : OfE p f w) (hk : Okt f tab) (hat : 0 ≤ at_) : sCall Tryd.prog S.stops_size.n [p, .int .i32 r, .int .i64 tab, .int .i64 at_] w fun u w' => w' = w ∧ u = .int .i64 (siz f tab r at_) := by
  refine S.stops_size.call ?_
  unfold S.stops_size
  have h1 := hk.ht
  have h3 := Int.emod_nonneg at_ (show tab ≠ 0 by omega)
  have h4 := Int.emod_lt_of_pos at_ (show 0 < tab by omega)
  rw [sBin_neq, sIf_not]
  refine ⟨fun h => ?_, fun h => ?_⟩
  · refine (ho w (Ext.refl w) r).mono ?_
    rintro u w' ⟨rfl, rfl⟩
    exact ⟨rfl, by simp [siz, h]⟩
  · rw [sBin_geq, sIf_dec, sBin_rem _ _ hat (by omega) (by omega), sBin_sub _ _ ⟨by omega, by omega⟩]
    exact ⟨fun h' => ⟨rfl, by simp [siz, h, h']⟩, fun h' => ⟨rfl, by simp [siz, h, h']⟩⟩

theorem each_spec {w0 w : World} {p l g : Value} {f : Int → Int} {tab : Int} {ls : List Int} (ho : OfE p f w0) (hk : Okt f tab) (hl : Sl w0 l 1 (encI .i32) ls) (hn : ls.length ≤ 1000000) (J : Nat → World → Prop) (D : World → Prop) (hE : ∀ i w, J i w → Ext w0 w)
    (hstep : ∀ (i : Nat) (r : Int) (w : World), ls[i]? = some r → J i w → sDyn Tryd.prog g [.int .i64 i, .int .i64 (pos f tab ls i), .int .i64 (siz f tab r (pos f tab ls i))] w fun u w' => ∃ b, u = .bool b ∧ (b = true → J (i + 1) w') ∧ (b = false → D w'))
    (hend : ∀ w, J ls.length w → sDyn Tryd.prog g [.int .i64 ls.length, .int .i64 (pos f tab ls ls.length), .int .i64 0] w fun _ w' => D w') (h0 : J 0 w) :
    sCall Tryd.prog S.stops_each.n [p, l, .int .i64 tab, g] w fun _ w' => D w' := by
  refine S.stops_each.call ?_
  unfold S.stops_each
  rw [sLen_sl S.tel_L_int32 (hl.ext (hE 0 w h0))]
  refine LoopS.intro (fun us w1 => ∃ i : Nat, us = [.int .i64 (pos f tab ls i), .int .i64 i] ∧ i ≤ ls.length ∧ J i w1)
    (fun us _ => match us with | [_, .int _ a] => (ls.length - a).toNat | _ => 0) ⟨0, rfl, Nat.zero_le _, h0⟩ ?_
  rintro us vs w1 ⟨i, rfl, hi, hJ⟩
  unfold S.stops_each_L1
  have he := hE i w1 hJ
  have hb := pos_bd (ls := ls) hk i
  rw [hd, tl, hd, sBin_lss, sIf_dec]
  refine ⟨fun hlt => ?_, fun hge => ?_⟩
  · obtain ⟨r, hx⟩ : ∃ x, ls[i]? = some x := ⟨_, List.getElem?_eq_getElem (by omega)⟩
    obtain ⟨b, o, hel, hc⟩ := (hl.ext he).el hx
    rw [sIdxA_sl S.tel_L_int32 S.tsz_int32 (by omega) (hl.ext he) hx rfl, hel, sLoad_cell S.tcell_int32 (hc.fst rfl)]
    refine (size_spec (ho.ext he) hk hb.1).mono ?_
    rintro u w' ⟨rfl, rfl⟩
    have hs := siz_bd (r := r) (at_ := pos f tab ls i) hk
    refine sDyn_mono ?_ (hstep i r _ hx hJ)
    rintro u w2 ⟨t, rfl, h1, h2⟩
    rw [sUn_not, sIf_bool]
    refine ⟨fun ht => h2 (by simpa using ht), fun ht => ?_⟩
    rw [sBin_add _ _ ⟨by omega, by omega⟩, sBin_add _ _ ⟨by omega, by omega⟩]
    exact ⟨⟨i + 1, by rw [pos_succ hx]; simp, by omega, h1 (by simpa using ht)⟩, by simp only []; omega⟩
  · have hin : i = ls.length := by omega
    subst hin
    rw [sLen_sl S.tel_L_int32 (hl.ext he)]
    refine sDyn_mono ?_ (hend _ hJ)
    exact fun u w2 h => h
end Go.Proofs.YtplpkeoakclobaaDoor.St
namespace Go.Proofs.YtplpkeoakclobaaDoor.St
open Go Go.Lift Go.RowKit

abbrev Right (tab : Int) : Prop := 1 ≤ tab ∧ tab ≤ 16
theorem row_ne {w : World} {base e k b : Nat} {v : Value} {α : Type} {enc : α → List Value} {xs : List α} (h : Row w base e k v enc xs) (hb : b < base) : v.ownBlock = none ∨ v.ownBlock ≠ some b := by
  cases hv : v.ownBlock with
  | none => exact .inl rfl
  | some g => exact .inr (by intro e; cases e; have := h.lt b hv; omega)
/-- One int more. -/
theorem pushI {w : World} {K : K1} {base : Nat} {v : Value} {xs : List Int} {x : Int} (hr : Row w base S.T.int 1 v (encI .i64) xs) (hb : base ≤ w.heap.size) (hn : xs.length ≤ 2000000)
    (h : ∀ v' w', Row w' base S.T.int 1 v' (encI .i64) (xs ++ [x]) → w.grownBy w' v.ownBlock → K v' w') :
    sBuildSlice Tryd.prog S.T.L_int 1 [(0, .int .i64 x)] w fun t w => sBuiltin Tryd.prog .append [S.T.L_int, S.T.L_int] S.T.L_int [v, t] w K := by
  refine sBuildSlice_own (enc := encI .i64) (xs := [x]) (lp := [(0, [.int .i64 x])]) S.tel_L_int S.tsz_int rfl S.tze_int (by decide) (by decide) (encI_ok _) rfl rfl fun t w1 ht ho1 he1 hs1 => ?_
  refine sAppend_row S.tel_L_int S.tsz_int (by decide) S.tze_int rfl (encI_ok _) (hr.ext he1) (by omega) (ho1.sl (encI_ok _)) (by have : maxLen = 9223372036854775807 := rfl; simp; omega) (by rw [S.tby_int]; simp; omega) fun v' w2 hr2 hg2 _ => ?_
  exact h v' w2 hr2 (grown_trans (grown_of_ext he1 _) hg2)

/-- A question: a tab's size and a place. -/
def encQ (t a : Int) : List Value := [.int .i64 t, .int .i64 a]
theorem cell_spec {w : World} {p l : Value} {f : Int → Int} {tab a : Int} {ls : List Int} (ho : OfE p f w) (hf : ∀ r, 0 ≤ f r ∧ f r ≤ 2) (hl : Sl w l 1 (encI .i32) ls) (hn : ls.length ≤ 1000000) :
    sCall Tryd.prog S.stops_Cell.n [p, l, .agg (encQ tab a).toArray] w fun u w' => Ext w w' ∧ ∃ c e, u = .tuple #[.int .i64 c, .int .i64 e] ∧ ((¬ (Right tab ∧ 0 ≤ a ∧ a ≤ ls.length) ∧ c = 0 ∧ e = 1) ∨ (Right tab ∧ 0 ≤ a ∧ a ≤ ls.length ∧ c = pos f tab ls a.toNat ∧ e = 0)) := by
  refine S.stops_Cell.call ?_
  unfold S.stops_Cell
  refine sBox_new (cs := encQ tab a) rfl fun bq w1 hbq hs1 he1 hk1 => ?_
  rw [sFldA_ptr S.tfl_stops_Ask_Tab, sLoad_cell S.tcell_int (hk1.cells.at 0 rfl)]
  refine (right_spec tab).mono ?_
  rintro u w' ⟨rfl, t, rfl, ht⟩
  rw [sUn_not, sIf_bool]
  refine ⟨fun h => ⟨he1, 0, 1, rfl, .inl ⟨fun hr => (by rw [ht.2 hr.1] at h; cases h), rfl, rfl⟩⟩, fun h => ?_⟩
  have hr : Right tab := ht.1 (by simpa using h)
  have hk : Okt f tab := ⟨hf, hr⟩
  rw [sFldA_ptr S.tfl_stops_Ask_At, sLoad_cell S.tcell_int (hk1.cells.at 1 rfl), sBin_lss, sIf_dec]
  refine ⟨fun h0 => ⟨he1, 0, 1, rfl, .inl ⟨by omega, rfl, rfl⟩⟩, fun h0 => ?_⟩
  rw [sFldA_ptr S.tfl_stops_Ask_At, sLoad_cell S.tcell_int (hk1.cells.at 1 rfl), sLen_sl S.tel_L_int32 (hl.ext he1), sBin_gtr, sIf_dec]
  refine ⟨fun h1 => ⟨he1, 0, 1, rfl, .inl ⟨by omega, rfl, rfl⟩⟩, fun h1 => ?_⟩
  obtain ⟨a, rfl⟩ : ∃ k : Nat, a = k := ⟨a.toNat, by omega⟩
  refine sVar S.tze_int S.tsz_int (by decide) (vs := [.int .i64 0]) rfl rfl (by intro u hu; simp at hu; subst hu; rfl) fun bc w2 hbc hs2 he2 hk2 => ?_
  have k2 := hk1.ext he2
  have E2 := he1.trans he2
  rw [sFldA_ptr S.tfl_stops_Ask_Tab, sLoad_cell S.tcell_int (k2.cells.at 0 rfl), sFunc_mk]
  have clo : ∀ (i : Nat) (n : Int) (w3 : World) (x : Int), Ext w w3 → Blk w3 bq (encQ tab a) → Blk w3 bc [.int .i64 x] →
      sCall Tryd.prog S.stops_Cell_1.n [.int .i64 i, .int .i64 (pos f tab ls i), .int .i64 n, .pointer (some ⟨bc, 0, none⟩), .pointer (some ⟨bq, 0, none⟩)] w3 fun u w' => u = .bool (decide (i < a)) ∧ Ext w w' ∧ Blk w' bq (encQ tab a) ∧ Blk w' bc [.int .i64 (pos f tab ls i)] := by
    intro i n w3 x e3 kq kc
    refine S.stops_Cell_1.call ?_
    unfold S.stops_Cell_1
    refine sStore_blk (vs := [.int .i64 (pos f tab ls i)]) S.tsz_int (by decide) kc rfl rfl (by simp) (by intro u hu; simp at hu; subst hu; rfl) fun w4 hs4 hg4 hk4 => ?_
    have hk4 : Blk w4 bc [.int .i64 (pos f tab ls i)] := hk4
    have kq4 := kq.wr hg4 (by intro e; cases e; omega)
    rw [sFldA_ptr S.tfl_stops_Ask_At, sLoad_cell S.tcell_int (kq4.cells.at 1 rfl), sBin_lss]
    refine ⟨by congr 2; simp, e3.wr hg4 (fun g hg => by cases hg; have := he1.size; omega), kq4, hk4⟩
  refine (each_spec (w0 := w) ho hk hl hn (fun i w' => Ext w w' ∧ i ≤ a ∧ Blk w' bq (encQ tab a) ∧ ∃ x, Blk w' bc [.int .i64 x])
    (fun w' => Ext w w' ∧ Blk w' bc [.int .i64 (pos f tab ls a)]) (fun i w' h => h.1) ?_ ?_ ⟨E2, Nat.zero_le _, k2, 0, hk2⟩).mono ?_
  · rintro i r w3 hx ⟨e3, hia, kq, x, kc⟩
    rw [sDyn_func]
    refine (clo i _ w3 x e3 kq kc).mono ?_
    rintro u w4 ⟨rfl, e4, kq4, kc4⟩
    refine ⟨_, rfl, fun h => ?_, fun h => ?_⟩
    · have := of_decide_eq_true h
      exact ⟨e4, by omega, kq4, _, kc4⟩
    · have := of_decide_eq_false h
      have : i = a := by omega
      subst this
      exact ⟨e4, kc4⟩
  · rintro w3 ⟨e3, hia, kq, x, kc⟩
    rw [sDyn_func]
    have : ls.length = a := by omega
    refine (clo ls.length _ w3 x e3 kq kc).mono ?_
    rintro u w4 ⟨rfl, e4, kq4, kc4⟩
    rw [this] at kc4
    exact ⟨e4, kc4⟩
  · rintro u w3 ⟨e3, kc⟩
    rw [sLoad_cell S.tcell_int (kc.cells.fst rfl)]
    exact ⟨e3, _, 0, rfl, .inr ⟨hr, by omega, by omega, rfl, rfl⟩⟩
end Go.Proofs.YtplpkeoakclobaaDoor.St
namespace Go.Proofs.YtplpkeoakclobaaDoor.St
open Go Go.Lift Go.RowKit

theorem stop_iff {tab a n : Int} (ht : 1 ≤ tab) (hn : 1 ≤ n) (hn2 : n ≤ tab - a % tab) : (a + n) % tab = 0 ↔ a % tab + n = tab := by
  have h1 := Int.emod_nonneg a (show tab ≠ 0 by omega)
  have e : (a + n) % tab = (a % tab + n) % tab := by rw [Int.emod_add_emod]
  rw [e]
  constructor
  · intro h
    rcases Int.lt_or_le (a % tab + n) tab with hlt | hge
    · rw [Int.emod_eq_of_lt (by omega) hlt] at h; omega
    · omega
  · intro h; rw [h]; exact Int.emod_self

theorem refsizes_spec {w : World} {p l : Value} {zs ws : List Rg} {tab : Int} {ls : List Int} (h : TabR w p zs ws) (nz : zs.length ≤ 1000000) (nw : ws.length ≤ 1000000) (ht : Right tab) (hl : Sl w l 1 (encI .i32) ls) (hn : ls.length ≤ 1000000) :
    sCall Tryd.prog S.bodkinref17_Sizes.n [p, l, .int .i64 tab] w fun u w' => Ext w w' ∧ Row w' w.heap.size S.T.int 1 u (encI .i64) (szs (ofT zs ws) tab ls ls.length) := by
  have hk : Okt (ofT zs ws) tab := ⟨ofT_le zs ws, ht⟩
  refine S.bodkinref17_Sizes.call ?_
  unfold S.bodkinref17_Sizes
  rw [sLen_sl S.tel_L_int32 hl]
  refine LoopS.intro (fun us w1 => Ext w w1 ∧ ∃ (i : Nat) (v : Value), us = [v, .int .i64 (pos (ofT zs ws) tab ls i), .int .i64 i] ∧ i ≤ ls.length ∧ Row w1 w.heap.size S.T.int 1 v (encI .i64) (szs (ofT zs ws) tab ls i))
    (fun us _ => match us with | [_, _, .int _ a] => (ls.length - a).toNat | _ => 0) ⟨Ext.refl w, 0, _, rfl, Nat.zero_le _, Row.nil _ _ _ _ _⟩ ?_
  rintro us vs w1 ⟨he, i, v, rfl, hi, hv⟩
  unfold S.bodkinref17_Sizes_L1
  have hb := pos_bd (ls := ls) hk i
  rw [hd, tl, hd, tl, hd, sBin_lss, sIf_dec]
  refine ⟨fun hlt => ?_, fun hge => ⟨he, by obtain rfl : i = ls.length := by omega
                                            exact hv⟩⟩
  obtain ⟨r, hx⟩ : ∃ x, ls[i]? = some x := ⟨_, List.getElem?_eq_getElem (by omega)⟩
  obtain ⟨b, o, hel, hc⟩ := (hl.ext he).el hx
  rw [sIdxA_sl S.tel_L_int32 S.tsz_int32 (by omega) (hl.ext he) hx rfl, hel, sLoad_cell S.tcell_int32 (hc.fst rfl)]
  refine (refof_spec (h.ext he) nz nw r).mono ?_
  rintro u w2 ⟨e2, rfl⟩
  have hs := siz_bd (r := r) (at_ := pos (ofT zs ws) tab ls i) hk
  refine JoinS.intro (fun us w' => w' = w2 ∧ us = [.int .i64 (siz (ofT zs ws) tab r (pos (ofT zs ws) tab ls i))]) ?_ ?_
  · rw [sBin_eql, sIf_dec]
    refine ⟨fun h9 => ?_, fun h9 => ⟨rfl, by simp [siz, h9]⟩⟩
    subst h9
    have hm1 := Int.emod_nonneg (pos (ofT zs ws) tab ls i) (show tab ≠ 0 by omega)
    have hm2 := Int.emod_lt_of_pos (pos (ofT zs ws) tab ls i) (show 0 < tab by omega)
    refine LoopS.intro (fun us w' => w' = w2 ∧ ∃ n : Int, us = [.int .i64 n] ∧ 1 ≤ n ∧ n ≤ tab - pos (ofT zs ws) tab ls i % tab ∧ (64 ≤ pos (ofT zs ws) tab ls i → n = 1))
      (fun us _ => match us with | [.int _ a] => (tab - a).toNat | _ => 0) ⟨rfl, 1, rfl, by omega, by omega, fun _ => rfl⟩ ?_
    rintro us vs w2 ⟨rfl, n, rfl, hn1, hn2, hn3⟩
    unfold S.bodkinref17_Sizes_L3
    rw [hd, sBin_lss, sIf_dec]
    refine ⟨fun h64 => ?_, fun h64 => ⟨rfl, by have := hn3 (by omega); subst this; simp [siz, show (64:Int) ≤ pos (ofT zs ws) tab ls i by omega]⟩⟩
    rw [sBin_add _ _ ⟨by omega, by omega⟩, sBin_rem _ _ (by omega) (by omega) (by omega), sBin_neq, sIf_not, sBin_add _ _ ⟨by omega, by omega⟩]
    have hst := stop_iff (a := pos (ofT zs ws) tab ls i) ht.1 hn1 hn2
    refine ⟨fun hne => ?_, fun heq => ⟨rfl, ?_⟩⟩
    · have : pos (ofT zs ws) tab ls i % tab + n ≠ tab := fun e => hne (hst.2 e)
      exact ⟨⟨rfl, n + 1, rfl, by omega, by omega, fun h => by omega⟩, by simp only []; omega⟩
    · have := hst.1 heq
      congr 2
      simp only [siz, if_true, show ¬ (64:Int) ≤ pos (ofT zs ws) tab ls i by omega, if_false]
      omega
  rintro us vs w2 ⟨rfl, rfl⟩
  unfold S.bodkinref17_Sizes_J2
  rw [hd]
  refine pushI (hv.ext e2) (he.trans e2).size (by rw [szs_len]; omega) fun v' w3 hv3 hg3 => ?_
  rw [sBin_add _ _ ⟨by omega, by omega⟩, sBin_add _ _ ⟨by omega, by omega⟩]
  refine ⟨⟨(he.trans e2).wr hg3 fun g hg => ((hv.ext e2).lt g hg).1, i + 1, v', by rw [pos_succ hx]; simp, by omega, by rw [szs_succ hx]; exact hv3⟩, by simp only []; omega⟩

theorem pushI2 {w : World} {K : K1} {base : Nat} {v : Value} {xs : List Int} {x : Int} (hr : Row w base S.T.int 1 v (encI .i64) xs) (hb : base ≤ w.heap.size) (hn : xs.length ≤ 2000000)
    (h : ∀ v' w', Row w' base S.T.int 1 v' (encI .i64) (xs ++ [x]) → w.grownBy w' v.ownBlock → (v'.ownBlock = v.ownBlock ∨ ∀ g, v'.ownBlock = some g → w.heap.size ≤ g) → K v' w') :
    sBuildSlice Tryd.prog S.T.L_int 1 [(0, .int .i64 x)] w fun t w => sBuiltin Tryd.prog .append [S.T.L_int, S.T.L_int] S.T.L_int [v, t] w K := by
  refine sBuildSlice_own (enc := encI .i64) (xs := [x]) (lp := [(0, [.int .i64 x])]) S.tel_L_int S.tsz_int rfl S.tze_int (by decide) (by decide) (encI_ok _) rfl rfl fun t w1 ht ho1 he1 hs1 => ?_
  refine sAppend_row S.tel_L_int S.tsz_int (by decide) S.tze_int rfl (encI_ok _) (hr.ext he1) (by omega) (ho1.sl (encI_ok _)) (by have : maxLen = 9223372036854775807 := rfl; simp; omega) (by rw [S.tby_int]; simp; omega) fun v' w2 hr2 hg2 hor => ?_
  exact h v' w2 hr2 (grown_trans (grown_of_ext he1 _) hg2) (hor.imp id fun h g hg => by have := h g hg; omega)

/-- Each place's cell. -/
def poss (f : Int → Int) (tab : Int) (ls : List Int) (n : Nat) : List Int := (List.range n).map (pos f tab ls)
theorem poss_len {f : Int → Int} {tab : Int} {ls : List Int} {n : Nat} : (poss f tab ls n).length = n := by simp [poss]
theorem poss_at {f : Int → Int} {tab : Int} {ls : List Int} {i n : Nat} (hi : i < n) : (poss f tab ls n)[i]? = some (pos f tab ls i) := by simp [poss, hi]
theorem poss_succ {f : Int → Int} {tab : Int} {ls : List Int} {n : Nat} : poss f tab ls (n + 1) = poss f tab ls n ++ [pos f tab ls n] := by simp [poss, List.range_succ]

theorem refcells_spec {w : World} {p l : Value} {zs ws : List Rg} {tab : Int} {ls : List Int} (h : TabR w p zs ws) (nz : zs.length ≤ 1000000) (nw : ws.length ≤ 1000000) (ht : Right tab) (hl : Sl w l 1 (encI .i32) ls) (hn : ls.length ≤ 1000000) :
    sCall Tryd.prog S.bodkinref17_Cells.n [p, l, .int .i64 tab] w fun u w' => Ext w w' ∧ Row w' w.heap.size S.T.int 1 u (encI .i64) (poss (ofT zs ws) tab ls (ls.length + 1)) := by
  have hk : Okt (ofT zs ws) tab := ⟨ofT_le zs ws, ht⟩
  refine S.bodkinref17_Cells.call ?_
  unfold S.bodkinref17_Cells
  refine sBuildSlice_own (enc := encI .i64) (xs := [0]) (lp := [(0, [.int .i64 0])]) S.tel_L_int S.tsz_int rfl S.tze_int (by decide) (by decide) (encI_ok _) rfl rfl fun v0 w1 hv0 ho1 he1 hs1 => ?_
  refine (refsizes_spec (h.ext he1) nz nw ht (hl.ext he1) hn).mono ?_
  rintro z w2 ⟨e2, hz⟩
  have E2 := he1.trans e2
  have hzs := hz.sl (encI_ok _)
  rw [sLen_sl S.tel_L_int hzs, szs_len]
  have hv0l : ∀ g, v0.ownBlock = some g → g < w1.heap.size := fun g hg => (ho1.lt g hg).2
  refine LoopS.intro (fun us w3 => Ext w w3 ∧ Row w3 w1.heap.size S.T.int 1 z (encI .i64) (szs (ofT zs ws) tab ls ls.length) ∧ ∃ (i : Nat) (v : Value), us = [v, .int .i64 i] ∧ i ≤ ls.length ∧ Row w3 w.heap.size S.T.int 1 v (encI .i64) (poss (ofT zs ws) tab ls (i + 1)) ∧ ∀ g, z.ownBlock = some g → v.ownBlock ≠ some g)
    (fun us _ => match us with | [_, .int _ a] => (ls.length - a).toNat | _ => 0) ⟨E2, hz, 0, v0, rfl, Nat.zero_le _, ho1.row.ext e2, fun g hg h0 => by have := (hz.lt g hg).1; have := hv0l g h0; omega⟩ ?_
  rintro us vs w3 ⟨e3, hz3, i, v, rfl, hi, hv, hne⟩
  unfold S.bodkinref17_Cells_L1
  rw [hd, tl, hd, sBin_lss, sIf_dec]
  refine ⟨fun hlt => ?_, fun hge => ⟨e3, by obtain rfl : i = ls.length := by omega
                                            exact hv⟩⟩
  obtain ⟨r, hx⟩ : ∃ x, ls[i]? = some x := ⟨_, List.getElem?_eq_getElem (by omega)⟩
  have hb := pos_bd (ls := ls) hk i
  have hs := siz_bd (r := r) (at_ := pos (ofT zs ws) tab ls i) hk
  have a1 := szs_at (f := ofT zs ws) (tab := tab) hx (n := ls.length) (by omega)
  have a2 := poss_at (f := ofT zs ws) (tab := tab) (ls := ls) (i := i) (n := i + 1) (by omega)
  obtain ⟨b1, o1, hel1, hc1⟩ := (hz3.sl (encI_ok _)).el a1
  obtain ⟨b2, o2, hel2, hc2⟩ := (hv.sl (encI_ok _)).el a2
  rw [sIdxA_sl S.tel_L_int S.tsz_int (by omega) (hz3.sl (encI_ok _)) a1 rfl, hel1, sLoad_cell S.tcell_int (hc1.fst rfl), sIdxA_sl S.tel_L_int S.tsz_int (by omega) (hv.sl (encI_ok _)) a2 rfl, hel2, sLoad_cell S.tcell_int (hc2.fst rfl), sBin_add _ _ ⟨by omega, by omega⟩]
  refine pushI2 hv e3.size (by rw [poss_len]; omega) fun v' w4 hv4 hg4 hor => ?_
  rw [sBin_add _ _ ⟨by omega, by omega⟩]
  refine ⟨⟨e3.wr hg4 fun g hg => (hv.lt g hg).1, hz3.wr hg4 ?_, i + 1, v', by simp, by omega, by rw [poss_succ, pos_succ hx]; exact hv4, fun g hg h0 => ?_⟩, by simp only []; omega⟩
  · cases hzo : z.ownBlock with
    | none => exact .inl rfl
    | some g => exact .inr fun e => hne g hzo e.symm
  · rcases hor with h1 | h1
    · rw [h1] at h0; exact hne g hg h0
    · have := h1 g h0; have := (hz3.lt g hg).2; omega
end Go.Proofs.YtplpkeoakclobaaDoor.St
