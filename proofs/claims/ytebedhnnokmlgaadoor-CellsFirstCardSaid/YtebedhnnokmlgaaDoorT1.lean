/- How many cells runes take, by definition; what 'each', 'size' and 'right' of the stops do. Conditions: a table that answers; at most a million runes. -/
import Derived.Test.YtebedhnnokmlgaaDoorWd2
import Derived.Test.YtebedhnnokmlgaaDoorRs2
namespace Go.Proofs.YtebedhnnokmlgaaDoor
open Go Go.Lift Go.RowKit

def siz (f : Int → Int) (tab r at_ : Int) : Int := if r = 9 then (if 64 ≤ at_ then 1 else tab - at_ % tab) else f r
def pos (f : Int → Int) (tab : Int) (ls : List Int) : Nat → Int
  | 0 => 0
  | i + 1 => match ls[i]? with | some r => pos f tab ls i + siz f tab r (pos f tab ls i) | none => pos f tab ls i
theorem pos_succ {f : Int → Int} {tab : Int} {ls : List Int} {i : Nat} {r : Int} (h : ls[i]? = some r) : pos f tab ls (i + 1) = pos f tab ls i + siz f tab r (pos f tab ls i) := by
  simp [pos, h]
structure Okt (f : Int → Int) (tab : Int) : Prop where
  hf : ∀ r, 0 ≤ f r ∧ f r ≤ 2
  ht : 1 ≤ tab ∧ tab ≤ 16
theorem siz_bd {f : Int → Int} {tab r at_ : Int} (h : Okt f tab) : 0 ≤ siz f tab r at_ ∧ siz f tab r at_ ≤ 16 := by
  have h1 := h.ht
  have h2 := h.hf r
  unfold siz
  have h3 := Int.emod_nonneg at_ (show tab ≠ 0 by omega)
  have h4 := Int.emod_lt_of_pos at_ (show 0 < tab by omega)
  split
  · split <;> omega
  · omega
theorem pos_bd {f : Int → Int} {tab : Int} {ls : List Int} (h : Okt f tab) (i : Nat) : 0 ≤ pos f tab ls i ∧ pos f tab ls i ≤ 16 * i := by
  induction i with
  | zero => simp [pos]
  | succ i ih =>
    cases hx : ls[i]? with
    | none => simp only [pos, hx]; omega
    | some r => rw [pos_succ hx]; have := siz_bd (r := r) (at_ := pos f tab ls i) h; omega
/-- The sizes of the first ones. -/
def szs (f : Int → Int) (tab : Int) (ls : List Int) (n : Nat) : List Int := (List.range n).map fun i => siz f tab (ls.getD i 0) (pos f tab ls i)
theorem szs_len {f : Int → Int} {tab : Int} {ls : List Int} {n : Nat} : (szs f tab ls n).length = n := by simp [szs]
theorem szs_succ {f : Int → Int} {tab : Int} {ls : List Int} {i : Nat} {r : Int} (h : ls[i]? = some r) : szs f tab ls (i + 1) = szs f tab ls i ++ [siz f tab r (pos f tab ls i)] := by
  unfold szs
  rw [List.range_succ, List.map_append]
  simp [h]
theorem szs_at {f : Int → Int} {tab : Int} {ls : List Int} {i n : Nat} {r : Int} (h : ls[i]? = some r) (hi : i < n) : (szs f tab ls n)[i]? = some (siz f tab r (pos f tab ls i)) := by
  unfold szs
  simp [hi, h]

/-- A table's value that answers in every world that has grown. -/
def OfE (p : Value) (f : Int → Int) (w : World) : Prop := ∀ w', Ext w w' → ∀ r, sCall Tryd.prog S.width_Table_Of.n [p, .int .i32 r] w' fun u w2 => w2 = w' ∧ u = .int .i64 (f r)
theorem OfE.ext {p : Value} {f : Int → Int} {w w' : World} (h : OfE p f w) (e : Ext w w') : OfE p f w' := fun w2 e2 => h w2 (e.trans e2)
theorem OfE.tab {p : Value} {w : World} {zs ws : List Rg} (h : TabR w p zs ws) (hf : Fine zs ws) : OfE p (ofT zs ws) w := fun _ e r => of_spec (h.ext e) hf r
theorem OfE.nil {w : World} : OfE (.pointer none) (fun _ => 1) w := fun _ _ r => of_nil_spec r

theorem right_spec {w : World} (tab : Int) : sCall Tryd.prog S.stops_right.n [.int .i64 tab] w fun u w' => w' = w ∧ ∃ b, u = .bool b ∧ (b = true ↔ 1 ≤ tab ∧ tab ≤ 16) := by
  refine S.stops_right.call ?_
  unfold S.stops_right
  rw [sBin_geq, sIf_dec, sBin_leq]
  refine ⟨fun h => ⟨rfl, _, rfl, ?_⟩, fun h => ⟨rfl, _, rfl, ?_⟩⟩
  · rw [decide_eq_true_eq]; omega
  · simp; omega
theorem refright_spec {w : World} (tab : Int) : sCall Tryd.prog S.bodkinref17_Right.n [.int .i64 tab] w fun u w' => w' = w ∧ ∃ b, u = .bool b ∧ (b = true ↔ 1 ≤ tab ∧ tab ≤ 16) := by
  refine S.bodkinref17_Right.call ?_
  unfold S.bodkinref17_Right
  rw [sBin_geq, sIf_dec, sBin_leq]
  refine ⟨fun h => ⟨rfl, _, rfl, ?_⟩, fun h => ⟨rfl, _, rfl, ?_⟩⟩
  · rw [decide_eq_true_eq]; omega
  · simp; omega
theorem size_spec {w : World} {p : Value} {f : Int → Int} {tab r at_ : Int} (ho : OfE p f w) (hk : Okt f tab) (hat : 0 ≤ at_) : sCall Tryd.prog S.stops_size.n [p, .int .i32 r, .int .i64 tab, .int .i64 at_] w fun u w' => w' = w ∧ u = .int .i64 (siz f tab r at_) := by
  refine S.stops_size.call ?_
  unfold S.stops_size
  have h1 := hk.ht
  have h3 := Int.emod_nonneg at_ (show tab ≠ 0 by omega)
  have h4 := Int.emod_lt_of_pos at_ (show 0 < tab by omega)
  rw [sBin_neq, sIf_not]
  refine ⟨fun h => ?_, fun h => ?_⟩
  · refine (ho w (Ext.refl w) r).mono ?_
    rintro u w' ⟨rfl, rfl⟩
    exact ⟨rfl, by simp [siz, h]⟩
  · rw [sBin_geq, sIf_dec, sBin_rem _ _ hat (by omega) (by omega), sBin_sub _ _ ⟨by omega, by omega⟩]
    exact ⟨fun h' => ⟨rfl, by simp [siz, h, h']⟩, fun h' => ⟨rfl, by simp [siz, h, h']⟩⟩

theorem each_spec {w0 w : World} {p l g : Value} {f : Int → Int} {tab : Int} {ls : List Int} (ho : OfE p f w0) (hk : Okt f tab) (hl : Sl w0 l 1 (encI .i32) ls) (hn : ls.length ≤ 1000000) (J : Nat → World → Prop) (D : World → Prop) (hE : ∀ i w, J i w → Ext w0 w)
    (hstep : ∀ (i : Nat) (r : Int) (w : World), ls[i]? = some r → J i w → sDyn Tryd.prog g [.int .i64 i, .int .i64 (pos f tab ls i), .int .i64 (siz f tab r (pos f tab ls i))] w fun u w' => ∃ b, u = .bool b ∧ (b = true → J (i + 1) w') ∧ (b = false → D w'))
    (hend : ∀ w, J ls.length w → sDyn Tryd.prog g [.int .i64 ls.length, .int .i64 (pos f tab ls ls.length), .int .i64 0] w fun _ w' => D w') (h0 : J 0 w) :
    sCall Tryd.prog S.stops_each.n [p, l, .int .i64 tab, g] w fun _ w' => D w' := by
  refine S.stops_each.call ?_
  unfold S.stops_each
  rw [sLen_sl S.tel_L_int32 (hl.ext (hE 0 w h0))]
  refine LoopS.intro (fun us w1 => ∃ i : Nat, us = [.int .i64 (pos f tab ls i), .int .i64 i] ∧ i ≤ ls.length ∧ J i w1)
    (fun us _ => match us with | [_, .int _ a] => (ls.length - a).toNat | _ => 0) ⟨0, rfl, Nat.zero_le _, h0⟩ ?_
  rintro us vs w1 ⟨i, rfl, hi, hJ⟩
  unfold S.stops_each_L1
  have he := hE i w1 hJ
  have hb := pos_bd (ls := ls) hk i
  rw [hd, tl, hd, sBin_lss, sIf_dec]
  refine ⟨fun hlt => ?_, fun hge => ?_⟩
  · obtain ⟨r, hx⟩ : ∃ x, ls[i]? = some x := ⟨_, List.getElem?_eq_getElem (by omega)⟩
    obtain ⟨b, o, hel, hc⟩ := (hl.ext he).el hx
    rw [sIdxA_sl S.tel_L_int32 S.tsz_int32 (by omega) (hl.ext he) hx rfl, hel, sLoad_cell S.tcell_int32 (hc.fst rfl)]
    refine (size_spec (ho.ext he) hk hb.1).mono ?_
    rintro u w' ⟨rfl, rfl⟩
    have hs := siz_bd (r := r) (at_ := pos f tab ls i) hk
    refine sDyn_mono ?_ (hstep i r _ hx hJ)
    rintro u w2 ⟨t, rfl, h1, h2⟩
    rw [sUn_not, sIf_bool]
    refine ⟨fun ht => h2 (by simpa using ht), fun ht => ?_⟩
    rw [sBin_add _ _ ⟨by omega, by omega⟩, sBin_add _ _ ⟨by omega, by omega⟩]
    exact ⟨⟨i + 1, by rw [pos_succ hx]; simp, by omega, h1 (by simpa using ht)⟩, by simp only []; omega⟩
  · have hin : i = ls.length := by omega
    subst hin
    rw [sLen_sl S.tel_L_int32 (hl.ext he)]
    refine sDyn_mono ?_ (hend _ hJ)
    exact fun u w2 h => h
end Go.Proofs.YtebedhnnokmlgaaDoor
