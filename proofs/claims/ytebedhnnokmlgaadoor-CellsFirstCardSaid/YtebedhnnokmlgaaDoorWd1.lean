/- The contracts of the two packages' 'in', 'Of' and 'Sum'. Conditions: what stands in memory when they are called, and lists of at most a million. -/
import Derived.Test.YtebedhnnokmlgaaDoorS
namespace Go.Proofs.YtebedhnnokmlgaaDoor
open Go Go.Lift Go.RowKit
abbrev Rg := Int × Int
def encR (x : Rg) : List Value := [.int .i32 x.1, .int .i32 x.2]
theorem encR_ok : Enc encR 2 := ⟨fun _ => rfl, fun x u hu => by simp [encR] at hu; rcases hu with rfl | rfl <;> rfl⟩
def inR (xs : List Rg) (r : Int) : Prop := ∃ x ∈ xs, x.1 ≤ r ∧ r ≤ x.2
instance (xs : List Rg) (r : Int) : Decidable (inR xs r) := inferInstanceAs (Decidable (∃ x ∈ xs, x.1 ≤ r ∧ r ≤ x.2))
/-- Rising and apart. -/
def Ris (xs : List Rg) : Prop := (∀ (i : Nat) (x : Rg), xs[i]? = some x → x.1 ≤ x.2) ∧ ∀ (i j : Nat) (x y : Rg), xs[i]? = some x → xs[j]? = some y → i < j → x.2 < y.1

theorem in_spec {w : World} {v : Value} {xs : List Rg} (h : Sl w v 2 encR xs) (hr : Ris xs) (hs : xs.length ≤ 1000000) (r : Int) : sCall Tryd.prog S.width_in.n [v, .int .i32 r] w fun u w' => w' = w ∧ u = .bool (decide (inR xs r)) := by
  refine S.width_in.call ?_
  unfold S.width_in
  rw [sLen_sl S.tel_L_width_Range h]
  refine LoopS.intro (fun us w1 => w1 = w ∧ ∃ lo hi : Nat, us = [.int .i64 hi, .int .i64 lo, .bool false] ∧ lo ≤ hi ∧ hi ≤ xs.length ∧ (∀ (i : Nat) (x : Rg), xs[i]? = some x → i < lo → x.2 < r) ∧ (∀ (i : Nat) (x : Rg), xs[i]? = some x → hi ≤ i → r < x.1))
    (fun us _ => match us with | [.int _ a, .int _ b, _] => (a - b).toNat | _ => 0) ⟨rfl, 0, xs.length, rfl, Nat.zero_le _, Nat.le_refl _, fun i x _ hi => absurd hi (by omega), fun i x hx hi => ?_⟩ ?_
  · have := (List.getElem?_eq_some_iff.1 hx).1; omega
  rintro us vs w1 ⟨rfl, lo, hi, rfl, hlh, hhn, hlow, hhigh⟩
  have hlen := h.len_le
  unfold S.width_in_L1
  simp only [hd, tl, sBin_lss, sIf_dec]
  refine ⟨fun hlt => ?_, fun hge => ?_⟩
  · obtain ⟨x, hx⟩ : ∃ x, xs[(lo + hi) / 2]? = some x := ⟨_, List.getElem?_eq_getElem (by omega)⟩
    obtain ⟨b, o, hel, hc⟩ := h.el hx
    rw [sBin_add _ _ ⟨by omega, by omega⟩, sBin_quo _ _ (by omega) (by omega) (by omega), sIdxA_sl S.tel_L_width_Range S.tsz_width_Range (by omega) h hx (by omega), hel, sFldA_ptr S.tfl_width_Range_From,
      sLoad_cell S.tcell_int32 (hc.at 0 rfl), sBin_lss, sIf_dec, sIdxA_sl S.tel_L_width_Range S.tsz_width_Range (by omega) h hx (by omega), hel, sFldA_ptr S.tfl_width_Range_To, sLoad_cell S.tcell_int32 (hc.at 1 rfl), sBin_gtr, sIf_dec, sBin_add _ _ ⟨by omega, by omega⟩]
    have hmid : ((lo : Int) + hi) / 2 = (((lo + hi) / 2 : Nat) : Int) := by omega
    rw [hmid]
    refine ⟨fun h1 => ⟨⟨rfl, lo, (lo + hi) / 2, rfl, by omega, by omega, hlow, fun i y hy hi' => ?_⟩, by simp; omega⟩, fun h1 => ⟨fun h2 => ⟨⟨rfl, (lo + hi) / 2 + 1, hi, by simp, by omega, by omega, fun i y hy hi' => ?_, hhigh⟩, by simp; omega⟩, fun h2 => ⟨rfl, ?_⟩⟩⟩
    · by_cases e : i = (lo + hi) / 2
      · subst e; rw [hx] at hy; cases hy; exact h1
      · have := hr.2 _ _ x y hx hy (by omega); have := hr.1 _ x hx; omega
    · by_cases e : i = (lo + hi) / 2
      · subst e; rw [hx] at hy; cases hy; exact h2
      · have := hr.2 _ _ y x hy hx (by omega); have := hr.1 _ x hx; omega
    · congr 1
      symm
      rw [decide_eq_true_eq]
      exact ⟨x, List.mem_of_getElem? hx, by omega, by omega⟩
  · refine ⟨by trivial, ?_⟩
    congr 1
    symm
    rw [decide_eq_false_iff_not]
    rintro ⟨x, hx, h1, h2⟩
    obtain ⟨i, hi'⟩ := List.getElem?_of_mem hx
    by_cases e : i < lo
    · have := hlow i x hi' e; omega
    · have := hhigh i x hi' (by omega); omega
/-! ## The reference's 'in' -/
theorem refin_spec {w : World} {v : Value} {xs : List Rg} (h : Sl w v 2 encR xs) (hs : xs.length ≤ 1000000) (r : Int) : sCall Tryd.prog S.bodkinref02_in.n [v, .int .i32 r] w fun u w' => Ext w w' ∧ u = .bool (decide (inR xs r)) := by
  refine S.bodkinref02_in.call ?_
  unfold S.bodkinref02_in
  rw [sLen_sl S.tel_L_bodkinref02_Range h]
  refine LoopS.intro (fun us w1 => Ext w w1 ∧ ∃ i : Nat, us = [.int .i64 i] ∧ i ≤ xs.length ∧ (∀ (j : Nat) (x : Rg), xs[j]? = some x → j < i → ¬ (x.1 ≤ r ∧ r ≤ x.2)))
    (fun us _ => match us with | [.int _ a] => (xs.length - a).toNat | _ => 0) ⟨Ext.refl w, 0, rfl, Nat.zero_le _, fun j x _ hj => absurd hj (by omega)⟩ ?_
  rintro us vs w1 ⟨he, i, rfl, hi, hno⟩
  unfold S.bodkinref02_in_L1
  rw [hd, sBin_lss, sIf_dec]
  refine ⟨fun hlt => ?_, fun hge => ⟨he, ?_⟩⟩
  · obtain ⟨x, hx⟩ : ∃ x, xs[i]? = some x := ⟨_, List.getElem?_eq_getElem (by omega)⟩
    obtain ⟨b, o, hel, hc⟩ := (h.ext he).el hx
    rw [sIdxA_sl S.tel_L_bodkinref02_Range S.tsz_bodkinref02_Range (by omega) (h.ext he) hx rfl, hel, sLoad_agg S.tagg_bodkinref02_Range hc rfl]
    refine sVar S.tze_bodkinref02_Range S.tsz_bodkinref02_Range (by decide) rfl rfl (encR_ok.one x) fun b2 w2 _ _ he2 hk => ?_
    have hc2 := hk.cells
    rw [sFldA_ptr S.tfl_bodkinref02_Range_From, sLoad_cell S.tcell_int32 (hc2.at 0 rfl), sBin_geq, sIf_dec, sFldA_ptr S.tfl_bodkinref02_Range_To, sLoad_cell S.tcell_int32 (hc2.at 1 rfl), sBin_leq, sIf_dec, sBin_add _ _ ⟨by omega, by omega⟩]
    have hnext : ¬ (x.1 ≤ r ∧ r ≤ x.2) → (Ext w w2 ∧ ∃ i' : Nat, [Value.int .i64 ((i : Int) + 1)] = [.int .i64 i'] ∧ i' ≤ xs.length ∧ (∀ (j : Nat) (x : Rg), xs[j]? = some x → j < i' → ¬ (x.1 ≤ r ∧ r ≤ x.2))) ∧ (xs.length - ((i : Int) + 1)).toNat < (xs.length - (i : Int)).toNat := by
      intro hn
      refine ⟨⟨he.trans he2, i + 1, by simp, by omega, fun j y hy hj => ?_⟩, by omega⟩
      by_cases e : j = i
      · subst e; rw [hx] at hy; cases hy; exact hn
      · exact hno j y hy (by omega)
    refine ⟨fun h1 => ⟨fun h2 => ⟨he.trans he2, ?_⟩, fun h2 => hnext (by omega)⟩, fun h1 => hnext (by omega)⟩
    congr 1
    symm
    rw [decide_eq_true_eq]
    exact ⟨x, List.mem_of_getElem? hx, by omega, by omega⟩
  · congr 1
    symm
    rw [decide_eq_false_iff_not]
    rintro ⟨x, hx, h1, h2⟩
    obtain ⟨j, hj⟩ := List.getElem?_of_mem hx
    have := (List.getElem?_eq_some_iff.1 hj).1
    exact hno j x hj (by omega) ⟨h1, h2⟩

/-! ## Tables -/
/-- A table in memory, of either package: its ranges of no cells, and of two. -/
def TabR (w : World) (p : Value) (zs ws : List Rg) : Prop := ∃ b o z v, p = .pointer (some ⟨b, o, none⟩) ∧ Cells w b o [z, v] ∧ Sl w z 2 encR zs ∧ Sl w v 2 encR ws
theorem TabR.ext {w w' : World} {p : Value} {zs ws : List Rg} (h : TabR w p zs ws) (e : Ext w w') : TabR w' p zs ws := by
  obtain ⟨b, o, z, v, h1, h2, h3, h4⟩ := h
  exact ⟨b, o, z, v, h1, h2.ext e, h3.ext e, h4.ext e⟩
def ofT (zs ws : List Rg) (r : Int) : Int := if inR zs r then 0 else if inR ws r then 2 else 1
theorem ofT_le (zs ws : List Rg) (r : Int) : 0 ≤ ofT zs ws r ∧ ofT zs ws r ≤ 2 := by unfold ofT; split <;> (try split) <;> omega
structure Fine (zs ws : List Rg) : Prop where
  z : Ris zs
  w : Ris ws
  nz : zs.length ≤ 1000000
  nw : ws.length ≤ 1000000

theorem of_spec {w : World} {p : Value} {zs ws : List Rg} (h : TabR w p zs ws) (hf : Fine zs ws) (r : Int) : sCall Tryd.prog S.width_Table_Of.n [p, .int .i32 r] w fun u w' => w' = w ∧ u = .int .i64 (ofT zs ws r) := by
  obtain ⟨b, o, z, v, rfl, hc, hz, hv⟩ := h
  refine S.width_Table_Of.call ?_
  unfold S.width_Table_Of
  rw [sBin_ptr_eq S.tpt_P_width_Table, Option.isNone_some, sIf_false, sNil_ptr, sFldA_ptr S.tfl_width_Table_zero, sLoad_cell S.tcell_L_width_Range (hc.at 0 rfl)]
  refine (in_spec hz hf.z hf.nz r).mono ?_
  rintro u w' ⟨rfl, rfl⟩
  rw [sIf_dec]
  refine ⟨fun h1 => ⟨rfl, by simp [ofT, h1]⟩, fun h1 => ?_⟩
  rw [sNil_ptr, sFldA_ptr S.tfl_width_Table_wide, sLoad_cell S.tcell_L_width_Range (hc.at 1 rfl)]
  refine (in_spec hv hf.w hf.nw r).mono ?_
  rintro u w' ⟨rfl, rfl⟩
  rw [sIf_dec]
  exact ⟨fun h2 => ⟨rfl, by simp [ofT, h1, h2]⟩, fun h2 => ⟨rfl, by simp [ofT, h1, h2]⟩⟩
theorem of_nil_spec {w : World} (r : Int) : sCall Tryd.prog S.width_Table_Of.n [.pointer none, .int .i32 r] w fun u w' => w' = w ∧ u = .int .i64 1 := by
  refine S.width_Table_Of.call ?_
  unfold S.width_Table_Of
  rw [sBin_ptr_eq S.tpt_P_width_Table, Option.isNone_none, sIf_true]
  exact ⟨rfl, rfl⟩
theorem refof_spec {w : World} {p : Value} {zs ws : List Rg} (h : TabR w p zs ws) (nz : zs.length ≤ 1000000) (nw : ws.length ≤ 1000000) (r : Int) : sCall Tryd.prog S.bodkinref02_Table_Of.n [p, .int .i32 r] w fun u w' => Ext w w' ∧ u = .int .i64 (ofT zs ws r) := by
  obtain ⟨b, o, z, v, rfl, hc, hz, hv⟩ := h
  refine S.bodkinref02_Table_Of.call ?_
  unfold S.bodkinref02_Table_Of
  rw [sNil_ptr, sFldA_ptr S.tfl_bodkinref02_Table_Zero, sLoad_cell S.tcell_L_bodkinref02_Range (hc.at 0 rfl)]
  refine (refin_spec hz nz r).mono ?_
  rintro u w1 ⟨e1, rfl⟩
  rw [sIf_dec]
  refine ⟨fun h1 => ⟨e1, by simp [ofT, h1]⟩, fun h1 => ?_⟩
  rw [sNil_ptr, sFldA_ptr S.tfl_bodkinref02_Table_Wide, sLoad_cell S.tcell_L_bodkinref02_Range ((hc.ext e1).at 1 rfl)]
  refine (refin_spec (hv.ext e1) nw r).mono ?_
  rintro u w2 ⟨e2, rfl⟩
  rw [sIf_dec]
  exact ⟨fun h2 => ⟨e1.trans e2, by simp [ofT, h1, h2]⟩, fun h2 => ⟨e1.trans e2, by simp [ofT, h1, h2]⟩⟩

/-! ## Sums -/
def encI (k : IntKind) (x : Int) : List Value := [.int k x]
theorem encI_ok (k : IntKind) : Enc (encI k) 1 := ⟨fun _ => rfl, fun x u hu => by simp [encI] at hu; rw [hu]; rfl⟩
def sumF (f : Int → Int) (l : List Int) : Int := (l.map f).foldl (· + ·) 0
theorem sumF_snoc (f : Int → Int) (l : List Int) (x : Int) : sumF f (l ++ [x]) = sumF f l + f x := by simp [sumF]
theorem sumF_bd {f : Int → Int} (hf : ∀ x, 0 ≤ f x ∧ f x ≤ 2) (l : List Int) : 0 ≤ sumF f l ∧ sumF f l ≤ 2 * l.length := by
  have key : ∀ (l : List Int) (a : Int), a ≤ (l.map f).foldl (· + ·) a ∧ (l.map f).foldl (· + ·) a ≤ a + 2 * l.length := by
    intro l
    induction l with
    | nil => intro a; simp
    | cons x l ih => intro a; simp only [List.map_cons, List.foldl_cons, List.length_cons]; have := ih (a + f x); have := hf x; omega
  have := key l 0
  unfold sumF
  omega
theorem take_succ_of {α : Type} {l : List α} {i : Nat} {x : α} (h : l[i]? = some x) : l.take (i + 1) = l.take i ++ [x] := by
  rw [List.take_add_one, h]; rfl

end Go.Proofs.YtebedhnnokmlgaaDoor
