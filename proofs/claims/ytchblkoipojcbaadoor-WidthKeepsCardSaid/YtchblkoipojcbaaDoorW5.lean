/- What 'New', 'right' and the copies give; then what 'WidthTables' answers: true. Condition: the package's two tables hold what its text says. -/
import Derived.Test.YtchblkoipojcbaaDoorW3
import Derived.Test.YtchblkoipojcbaaDoorRs2
namespace Go.Proofs.YtchblkoipojcbaaDoor
open Go Go.Lift Go.RowKit

/-- The end of the range before. -/
def lastOf (xs : List Rg) : Nat → Int
  | 0 => -1
  | i + 1 => match xs[i]? with | some x => x.2 | none => -1
def Rt (xs : List Rg) : Prop := ∀ (j : Nat) (x : Rg), xs[j]? = some x → lastOf xs j < x.1 ∧ x.1 ≤ x.2
theorem lastOf_succ {xs : List Rg} {i : Nat} {x : Rg} (h : xs[i]? = some x) : lastOf xs (i + 1) = x.2 := by simp [lastOf, h]
theorem Rt.ris {xs : List Rg} (h : Rt xs) : Ris xs := by
  refine ⟨fun i x hx => (h i x hx).2, fun i j x y hx hy hij => ?_⟩
  have key : ∀ (d : Nat) (y : Rg), xs[i + 1 + d]? = some y → x.2 < y.1 := by
    intro d
    induction d with
    | zero => intro y hy; have := (h _ y hy).1; rwa [Nat.add_zero, lastOf_succ hx] at this
    | succ d ih =>
      intro y hy
      obtain ⟨z, hz⟩ : ∃ z, xs[i + 1 + d]? = some z := ⟨_, List.getElem?_eq_getElem (by have := (List.getElem?_eq_some_iff.1 hy).1; omega)⟩
      have h1 := ih z hz
      have h2 := h _ z hz
      have h3 := (h _ y hy).1
      rw [← Nat.add_assoc, lastOf_succ hz] at h3
      omega
  obtain ⟨d, rfl⟩ : ∃ d, j = i + 1 + d := ⟨j - (i + 1), by omega⟩
  exact key d y hy
theorem lastOf_ge {xs : List Rg} {i : Nat} (h : ∀ (j : Nat) (x : Rg), xs[j]? = some x → j < i → lastOf xs j < x.1 ∧ x.1 ≤ x.2) : -1 ≤ lastOf xs i := by
  induction i with
  | zero => exact Int.le_refl _
  | succ i ih =>
    cases hx : xs[i]? with
    | none => simp [lastOf, hx]
    | some x =>
      have h1 := h i x hx (by omega)
      have := ih fun j x hx hj => h j x hx (by omega)
      rw [lastOf_succ hx]
      omega

theorem right_spec {w : World} {v : Value} {xs : List Rg} (h : Sl w v 2 encR xs) : sCall Tryd.prog S.width_right.n [v] w fun u w' => Ext w w' ∧ ∃ b, u = .bool b ∧ (b = true ↔ Rt xs) := by
  refine S.width_right.call ?_
  unfold S.width_right
  rw [sLen_sl S.tel_L_width_Range h]
  have hlen := h.len_le
  refine LoopS.intro (fun us w1 => Ext w w1 ∧ ∃ i : Nat, us = [.int .i32 (lastOf xs i), .int .i64 i] ∧ i ≤ xs.length ∧ ∀ (j : Nat) (x : Rg), xs[j]? = some x → j < i → lastOf xs j < x.1 ∧ x.1 ≤ x.2)
    (fun us _ => match us with | [_, .int _ a] => (xs.length - a).toNat | _ => 0) ⟨Ext.refl w, 0, rfl, Nat.zero_le _, fun _ _ _ h => absurd h (by omega)⟩ ?_
  rintro us vs w1 ⟨he, i, rfl, hi, hp⟩
  unfold S.width_right_L1
  rw [hd, tl, hd, sBin_lss, sIf_dec]
  refine ⟨fun hlt => ?_, fun hge => ⟨he, true, rfl, fun _ j x hx => hp j x hx (by have := (List.getElem?_eq_some_iff.1 hx).1; omega), fun _ => rfl⟩⟩
  obtain ⟨x, hx⟩ : ∃ x, xs[i]? = some x := ⟨_, List.getElem?_eq_getElem (by omega)⟩
  obtain ⟨b, o, hel, hc⟩ := (h.ext he).el hx
  rw [sIdxA_sl S.tel_L_width_Range S.tsz_width_Range (by omega) (h.ext he) hx rfl, hel, sLoad_agg S.tagg_width_Range hc rfl]
  refine sVar S.tze_width_Range S.tsz_width_Range (by decide) rfl rfl (encR_ok.one x) fun b2 w2 _ _ he2 hk => ?_
  have hc2 := hk.cells
  rw [sFldA_ptr S.tfl_width_Range_From, sLoad_cell S.tcell_int32 (hc2.at 0 rfl), sBin_leq, sIf_dec, sFldA_ptr S.tfl_width_Range_From, sLoad_cell S.tcell_int32 (hc2.at 0 rfl), sFldA_ptr S.tfl_width_Range_To, sLoad_cell S.tcell_int32 (hc2.at 1 rfl), sBin_gtr, sIf_dec,
    sFldA_ptr S.tfl_width_Range_To, sLoad_cell S.tcell_int32 (hc2.at 1 rfl), sBin_add _ _ ⟨by omega, by omega⟩]
  have e2 := he.trans he2
  refine ⟨fun h1 => ⟨e2, false, rfl, fun h => (by cases h), fun hR => by have := hR i x hx; omega⟩, fun h1 => ⟨fun h2 => ⟨e2, false, rfl, fun h => (by cases h), fun hR => by have := hR i x hx; omega⟩, fun h2 => ?_⟩⟩
  refine ⟨⟨e2, i + 1, by rw [lastOf_succ hx]; simp, by omega, fun j y hy hj => ?_⟩, by simp only []; omega⟩
  by_cases e : j = i
  · subst e; rw [hx] at hy; cases hy; omega
  · exact hp j y hy (by omega)

theorem refright_spec {w : World} {v : Value} {xs : List Rg} (h : Sl w v 2 encR xs) : sCall Tryd.prog S.bodkinref02_Right.n [v] w fun u w' => Ext w w' ∧ ∃ b, u = .bool b ∧ (b = true ↔ Rt xs) := by
  refine S.bodkinref02_Right.call ?_
  unfold S.bodkinref02_Right
  rw [sLen_sl S.tel_L_bodkinref02_Range h]
  have hlen := h.len_le
  refine LoopS.intro (fun us w1 => Ext w w1 ∧ ∃ i : Nat, us = [.int .i64 i] ∧ i ≤ xs.length ∧ ∀ (j : Nat) (x : Rg), xs[j]? = some x → j < i → lastOf xs j < x.1 ∧ x.1 ≤ x.2)
    (fun us _ => match us with | [.int _ a] => (xs.length - a).toNat | _ => 0) ⟨Ext.refl w, 0, rfl, Nat.zero_le _, fun _ _ _ h => absurd h (by omega)⟩ ?_
  rintro us vs w1 ⟨he, i, rfl, hi, hp⟩
  unfold S.bodkinref02_Right_L1
  rw [hd, sBin_lss, sIf_dec]
  refine ⟨fun hlt => ?_, fun hge => ⟨he, true, rfl, fun _ j x hx => hp j x hx (by have := (List.getElem?_eq_some_iff.1 hx).1; omega), fun _ => rfl⟩⟩
  obtain ⟨x, hx⟩ : ∃ x, xs[i]? = some x := ⟨_, List.getElem?_eq_getElem (by omega)⟩
  obtain ⟨b, o, hel, hc⟩ := (h.ext he).el hx
  rw [sIdxA_sl S.tel_L_bodkinref02_Range S.tsz_bodkinref02_Range (by omega) (h.ext he) hx rfl, hel, sLoad_agg S.tagg_bodkinref02_Range hc rfl]
  refine sVar S.tze_bodkinref02_Range S.tsz_bodkinref02_Range (by decide) rfl rfl (encR_ok.one x) fun b2 w2 _ _ he2 hk => ?_
  have hc2 := hk.cells
  have e2 := he.trans he2
  have hge := lastOf_ge hp
  have hbad : (x.1 < 0 ∨ x.2 < x.1 ∨ x.1 ≤ lastOf xs i) → Ext w w2.drew ∧ ∃ b, Value.bool false = .bool b ∧ (b = true ↔ Rt xs) := fun hb =>
    ⟨e2.drew, false, rfl, fun h => (by cases h), fun hR => by have := hR i x hx; omega⟩
  have hnext : 0 ≤ x.1 → x.1 ≤ x.2 → lastOf xs i < x.1 → (Ext w w2.drew ∧ ∃ i' : Nat, [Value.int .i64 ((i : Int) + 1)] = [.int .i64 i'] ∧ i' ≤ xs.length ∧ ∀ (j : Nat) (x : Rg), xs[j]? = some x → j < i' → lastOf xs j < x.1 ∧ x.1 ≤ x.2) ∧ (xs.length - ((i : Int) + 1)).toNat < (xs.length - (i : Int)).toNat := by
    intro h0 h1 h2
    refine ⟨⟨e2.drew, i + 1, by simp, by omega, fun j y hy hj => ?_⟩, by omega⟩
    by_cases e : j = i
    · subst e; rw [hx] at hy; cases hy; omega
    · exact hp j y hy (by omega)
  refine DrawS.ext ?_
  have E : Ext w2 w2.drew := (Ext.refl w2).drew
  rw [stillS_eq (fun w1 h1 K => sFldA_ptr S.tfl_bodkinref02_Range_From) E, stillS_cell S.tcell_int32 (hc2.at 0 rfl) E, stillS_eq (fun w1 h1 K => sBin_lss _ _) E, sIf_dec]
  refine ⟨fun h1 => hbad (by omega), fun h1 => ?_⟩
  rw [stillS_eq (fun w1 h1 K => sFldA_ptr S.tfl_bodkinref02_Range_From) E, stillS_cell S.tcell_int32 (hc2.at 0 rfl) E, stillS_eq (fun w1 h1 K => sFldA_ptr S.tfl_bodkinref02_Range_To) E, stillS_cell S.tcell_int32 (hc2.at 1 rfl) E, stillS_eq (fun w1 h1 K => sBin_gtr _ _) E, sIf_dec]
  refine ⟨fun h2 => hbad (by omega), fun h2 => ?_⟩
  rw [stillS_eq (fun w1 h1 K => sBin_gtr _ _) E, sIf_dec]
  refine ⟨fun h3 => ?_, fun h3 => ?_⟩
  · obtain ⟨y, hy⟩ : ∃ y, xs[i - 1]? = some y := ⟨_, List.getElem?_eq_getElem (by omega)⟩
    obtain ⟨b3, o3, hel3, hc3⟩ := (h.ext e2).el hy
    have hl : lastOf xs i = y.2 := by
      have := lastOf_succ hy
      rwa [show i - 1 + 1 = i from by omega] at this
    rw [stillS_eq (fun w1 h1 K => sFldA_ptr S.tfl_bodkinref02_Range_From) E, stillS_cell S.tcell_int32 (hc2.at 0 rfl) E, stillS_eq (fun w1 h1 K => sBin_sub _ _ ⟨by omega, by omega⟩) E,
      stillS_eq (fun w1 h1 K => sIdxA_sl S.tel_L_bodkinref02_Range S.tsz_bodkinref02_Range (by omega) ((h.ext e2).ext h1) hy (by omega)) E, hel3,
      stillS_eq (fun w1 h1 K => sFldA_ptr S.tfl_bodkinref02_Range_To) E, stillS_cell S.tcell_int32 (hc3.at 1 rfl) E, stillS_eq (fun w1 h1 K => sBin_leq _ _) E, sIf_dec, sBin_add _ _ ⟨by omega, by omega⟩]
    exact ⟨fun h4 => hbad (by omega), fun h4 => hnext (by omega) (by omega) (by omega)⟩
  · rw [sBin_add _ _ ⟨by omega, by omega⟩]
    have hl : lastOf xs i = -1 := by rw [show i = 0 from by omega]; rfl
    exact hnext (by omega) (by omega) (by omega)

theorem clone_spec {w : World} {v : Value} {xs : List Rg} (h : Sl w v 2 encR xs) (hn : xs.length ≤ 1000) : sCall Tryd.prog S.slices_Clone.n [v] w fun u w' => Ext w w' ∧ Own w' w.heap.size S.T.width_Range 2 u encR xs := by
  refine S.slices_Clone.call ?_
  unfold S.slices_Clone
  obtain ⟨a, cap, rfl, g1, g2, g3⟩ := id h
  rw [sBin_sl_eq S.tel_L_width_Range, sIf_bool]
  refine ⟨fun h1 => ⟨Ext.refl w, ?_⟩, fun h1 => ?_⟩
  · have : xs = [] := by
      cases xs with
      | nil => rfl
      | cons y ys => obtain ⟨b, o, hb, _⟩ := g3 0 y rfl; rw [hb] at h1; cases h1
    subst this
    exact Own.nil _ _ _ _ _
  · refine sBuildSlice_none (k := 2) (enc := encR) S.tel_L_width_Range S.tze_width_Range fun v1 w1 ho1 he1 hs1 => ?_
    refine sAppend_own S.tel_L_width_Range S.tsz_width_Range (by decide) S.tze_width_Range rfl encR_ok ho1 he1.size (h.ext he1) (by have : maxLen = 9223372036854775807 := rfl; simp; omega) (by rw [S.tby_width_Range]; simp; omega) fun v' w2 ho2 hg2 => ?_
    exact ⟨he1.wr hg2 fun g hg => (ho1.lt g hg).1, ho2⟩

def TooBig (zs ws : List Rg) : Prop := 200 < zs.length ∨ 200 < ws.length
theorem new_spec {w : World} {z v : Value} {zs ws : List Rg} (hz : Sl w z 2 encR zs) (hw : Sl w v 2 encR ws) :
    sCall Tryd.prog S.width_New.n [z, v] w fun u w' => Ext w w' ∧ (TooBig zs ws → u = .tuple #[.pointer none, .int .i64 2]) ∧ (¬ TooBig zs ws → ¬ (Rt zs ∧ Rt ws) → u = .tuple #[.pointer none, .int .i64 4]) ∧
      (¬ TooBig zs ws → Rt zs → Rt ws → ∃ b x y, u = .tuple #[.pointer (some ⟨b, 0, none⟩), .int .i64 0] ∧ w.heap.size ≤ b ∧ Blk w' b [x, y] ∧ Own w' w.heap.size S.T.width_Range 2 x encR zs ∧ Own w' w.heap.size S.T.width_Range 2 y encR ws) := by
  refine S.width_New.call ?_
  unfold S.width_New
  refine JoinS.intro (fun us w' => w' = w ∧ ∃ b : Bool, us = [.bool b] ∧ (b = true ↔ TooBig zs ws)) ?_ ?_
  · rw [sLen_sl S.tel_L_width_Range hz, sBin_gtr, sIf_dec, sLen_sl S.tel_L_width_Range hw, sBin_gtr]
    refine ⟨fun h1 => ⟨rfl, true, rfl, by simp only [true_iff]; exact .inl (by omega)⟩, fun h1 => ⟨rfl, _, rfl, ?_⟩⟩
    rw [decide_eq_true_eq]
    unfold TooBig
    omega
  · rintro us vs w' ⟨rfl, b, rfl, hb⟩
    unfold S.width_New_J1
    rw [hd, sIf_bool]
    refine ⟨fun h1 => ⟨Ext.refl _, fun _ => rfl, fun h => absurd (hb.1 h1) h, fun h => absurd (hb.1 h1) h⟩, fun h1 => ?_⟩
    have hnb : ¬ TooBig zs ws := fun h => by rw [hb.2 h] at h1; cases h1
    have hn : zs.length ≤ 200 ∧ ws.length ≤ 200 := by unfold TooBig at hnb; omega
    refine (right_spec hz).mono ?_
    rintro u w1 ⟨e1, b1, rfl, hb1⟩
    rw [sUn_not, sIf_bool]
    refine ⟨fun h2 => ⟨e1, fun h => absurd h hnb, fun _ _ => rfl, fun _ hr _ => by rw [hb1.2 hr] at h2; cases h2⟩, fun h2 => ?_⟩
    have hr1 : Rt zs := hb1.1 (by simpa using h2)
    refine (right_spec (hw.ext e1)).mono ?_
    rintro u w2 ⟨e2, b2, rfl, hb2⟩
    have e12 := e1.trans e2
    rw [sUn_not, sIf_bool]
    refine ⟨fun h3 => ⟨e12, fun h => absurd h hnb, fun _ _ => rfl, fun _ _ hr => by rw [hb2.2 hr] at h3; cases h3⟩, fun h3 => ?_⟩
    have hr2 : Rt ws := hb2.1 (by simpa using h3)
    refine (clone_spec (hz.ext e12) (by omega)).mono ?_
    rintro x w3 ⟨e3, ho3⟩
    refine (clone_spec ((hw.ext e12).ext e3) (by omega)).mono ?_
    rintro y w4 ⟨e4, ho4⟩
    rw [sBuild_of (lp := [(0, [x]), (1, [y])]) (cs := [x, y]) S.tze_width_Table S.tpl_width_Table (by simp [ho3.shape.1, ho4.shape.1]) rfl]
    refine sBox_new rfl fun b5 w5 hb5 hs5 he5 hk5 => ?_
    have hs := e12.size
    have hs3 := e3.size
    refine ⟨((e12.trans e3).trans e4).trans he5, fun h => absurd h hnb, fun _ h => absurd ⟨hr1, hr2⟩ h, fun _ _ _ => ⟨b5, x, y, rfl, by have := e4.size; omega, hk5, ((ho3.mono hs).ext e4).ext he5, (ho4.mono (by omega)).ext he5⟩⟩
end Go.Proofs.YtchblkoipojcbaaDoor
