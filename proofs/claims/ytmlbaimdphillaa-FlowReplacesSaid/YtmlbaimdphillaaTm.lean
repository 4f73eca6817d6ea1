/- Items and their sums: what the item package's functions give. Conditions: sizes that can be summed. -/
import Derived.Test.YtmlbaimdphillaaS
namespace Go.Proofs.Ytmlbaimdphillaa
open Go Go.Lift Go.RowKit

theorem take_succ_of {α : Type} {l : List α} {i : Nat} {x : α} (h : l[i]? = some x) : l.take (i + 1) = l.take i ++ [x] := by
  rw [List.take_add_one, h]; rfl
theorem drop_cons_of {α : Type} {l : List α} {i : Nat} {x : α} (h : l[i]? = some x) : l.drop i = x :: l.drop (i + 1) := by
  obtain ⟨h1, h2⟩ := List.getElem?_eq_some_iff.1 h
  rw [List.drop_eq_getElem_cons h1, h2]

theorem snoc_ind {α : Type} {P : List α → Prop} (h0 : P []) (h1 : ∀ xs x, P xs → P (xs ++ [x])) (xs : List α) : P xs := by
  rw [← List.reverse_reverse xs]
  induction xs.reverse with
  | nil => exact h0
  | cons x ys ih => rw [List.reverse_cons]; exact h1 _ x ih
/-- An item: its tag, its number, three sizes, its Max, its text. -/
structure It where
  tag : Int
  id : Int
  d0 : Int
  d1 : Int
  d2 : Int
  mx : Int
  text : ByteArray
def encT (x : It) : List Value := [.int .i64 x.tag, .int .i64 x.id, .int .i64 x.d0, .int .i64 x.d1, .int .i64 x.d2, .int .i64 x.mx, .string x.text]
theorem encT_ok : Enc encT 7 := ⟨fun _ => rfl, fun x u hu => by simp [encT] at hu; rcases hu with rfl | rfl | rfl | rfl | rfl | rfl | rfl <;> rfl⟩
theorem encT_inj {x y : It} (h : encT x = encT y) : x = y := by
  cases x; cases y; simp [encT] at h
  obtain ⟨rfl, rfl, rfl, rfl, rfl, rfl, rfl⟩ := h; rfl
/-- A sum: how many, three sizes, the greatest Max, where it is. -/
structure Su where
  n : Int
  d0 : Int
  d1 : Int
  d2 : Int
  mx : Int
  at_ : Int
def encS (x : Su) : List Value := [.int .i64 x.n, .int .i64 x.d0, .int .i64 x.d1, .int .i64 x.d2, .int .i64 x.mx, .int .i64 x.at_]
theorem encS_one (x : Su) : ∀ u ∈ encS x, u.oneCell' = true := fun u hu => by simp [encS] at hu; rcases hu with rfl | rfl | rfl | rfl | rfl | rfl <;> rfl
theorem encS_inj {x y : Su} (h : encS x = encS y) : x = y := by
  cases x; cases y; simp [encS] at h
  obtain ⟨rfl, rfl, rfl, rfl, rfl, rfl⟩ := h; rfl

abbrev R40 (n : Int) : Prop := 0 ≤ n ∧ n ≤ 1099511627776
abbrev ItOk (x : It) : Prop := R40 x.d0 ∧ R40 x.d1 ∧ R40 x.d2 ∧ R40 x.mx
def ofI (x : It) : Su := ⟨1, x.d0, x.d1, x.d2, x.mx, 0⟩
abbrev Hi (a b : Su) : Prop := 0 < b.n ∧ (a.n = 0 ∨ a.mx < b.mx)
abbrev wr (n : Int) : Int := IntKind.i64.wrap n
theorem wr_eq (n : Int) : wr n = if n % 18446744073709551616 ≥ 9223372036854775808 then n % 18446744073709551616 - 18446744073709551616 else n % 18446744073709551616 := by
  have h1 : IntKind.i64.bits = 64 := rfl
  have h2 : IntKind.i64.signed = true := rfl
  unfold wr IntKind.wrap
  rw [h1, h2]
  simp
theorem wr_in {n : Int} (h : I64 n) : wr n = n := IntWalk.i64_in _ h
theorem wr_left (a b : Int) : wr (wr a + b) = wr (a + b) := by rw [wr_eq, wr_eq, wr_eq]; split <;> split <;> split <;> omega
theorem wr_right (a b : Int) : wr (a + wr b) = wr (a + b) := by rw [wr_eq, wr_eq, wr_eq]; split <;> split <;> split <;> omega
theorem wr_wr (a : Int) : wr (wr a) = wr a := by have := wr_left a 0; simpa using this
def addS (a b : Su) : Su := ⟨a.n + b.n, wr (a.d0 + b.d0), wr (a.d1 + b.d1), wr (a.d2 + b.d2), if Hi a b then b.mx else a.mx, if Hi a b then a.n + b.at_ else a.at_⟩
def zeroS : Su := ⟨0, 0, 0, 0, 0, 0⟩
def allS (xs : List It) : Su := xs.foldl (fun s x => addS s (ofI x)) zeroS

theorem allS_nil : allS [] = zeroS := rfl
theorem allS_snoc (xs : List It) (x : It) : allS (xs ++ [x]) = addS (allS xs) (ofI x) := by simp [allS]
theorem allS_n (xs : List It) : (allS xs).n = xs.length := by
  induction xs using snoc_ind with
  | h0 => rfl
  | h1 xs x ih => rw [allS_snoc]; simp [addS, ofI, ih]
theorem Su.ext {p q : Su} (a : p.n = q.n) (b : p.d0 = q.d0) (c : p.d1 = q.d1) (d : p.d2 = q.d2) (e : p.mx = q.mx) (f : p.at_ = q.at_) : p = q := by
  cases p; cases q; simp at a b c d e f; rw [a, b, c, d, e, f]
theorem addS_assoc (a b c : Su) (ha : 0 ≤ a.n) (hb : 0 ≤ b.n) (hc : 0 < c.n) : addS (addS a b) c = addS a (addS b c) := by
  apply Su.ext <;> simp only [addS, Hi]
  · omega
  · rw [wr_left, wr_right, Int.add_assoc]
  · rw [wr_left, wr_right, Int.add_assoc]
  · rw [wr_left, wr_right, Int.add_assoc]
  · repeat' split
    all_goals omega
  · repeat' split
    all_goals omega
/-- Sums whose sizes are wrapped. -/
structure SuW (s : Su) : Prop where
  d0 : wr s.d0 = s.d0
  d1 : wr s.d1 = s.d1
  d2 : wr s.d2 = s.d2
theorem addS_w (a b : Su) : SuW (addS a b) := ⟨wr_wr _, wr_wr _, wr_wr _⟩
theorem allS_w (xs : List It) : SuW (allS xs) := by
  induction xs using snoc_ind with
  | h0 => exact ⟨rfl, rfl, rfl⟩
  | h1 xs x ih => rw [allS_snoc]; exact addS_w _ _
theorem addS_zero {a : Su} (h : SuW a) : addS a zeroS = a := by
  apply Su.ext <;> simp [addS, zeroS, Hi]
  · exact h.d0
  · exact h.d1
  · exact h.d2
theorem allS_append (a b : List It) : allS (a ++ b) = addS (allS a) (allS b) := by
  induction b using snoc_ind with
  | h0 => rw [List.append_nil, allS_nil, addS_zero (allS_w a)]
  | h1 b x ih =>
    rw [← List.append_assoc, allS_snoc, allS_snoc, ih, addS_assoc]
    · rw [allS_n]; omega
    · rw [allS_n]; omega
    · simp [ofI]
theorem addS_mx (a b : Su) : (addS a b).mx = b.mx ∨ (addS a b).mx = a.mx := by unfold addS; dsimp only; split <;> simp
theorem addS_at (a b : Su) : (addS a b).at_ = a.n + b.at_ ∨ (addS a b).at_ = a.at_ := by unfold addS; dsimp only; split <;> simp
/-- A sum within bounds. -/
structure SuB (s : Su) (m : Nat) : Prop where
  n : s.n = m
  d0 : 0 ≤ s.d0 ∧ s.d0 ≤ 1099511627776 * m
  d1 : 0 ≤ s.d1 ∧ s.d1 ≤ 1099511627776 * m
  d2 : 0 ≤ s.d2 ∧ s.d2 ≤ 1099511627776 * m
  mx : R40 s.mx
  at_ : 0 ≤ s.at_ ∧ s.at_ ≤ m
theorem allS_bd {xs : List It} (hn : xs.length ≤ 1000000) (h : ∀ x ∈ xs, ItOk x) : SuB (allS xs) xs.length := by
  induction xs using snoc_ind with
  | h0 => exact ⟨rfl, by simp [allS, zeroS], by simp [allS, zeroS], by simp [allS, zeroS], ⟨by simp [allS, zeroS], by simp [allS, zeroS]⟩, by simp [allS, zeroS]⟩
  | h1 xs x ih =>
    rw [List.length_append, List.length_singleton] at hn
    have i := ih (by omega) fun y hy => h y (by simp [hy])
    obtain ⟨h0, h1, h2, h3⟩ := h x (by simp)
    have e1 := i.n; have e2 := i.d0; have e3 := i.d1; have e4 := i.d2; have e5 := i.mx; have e6 := i.at_
    rw [allS_snoc]
    have hl : (xs ++ [x]).length = xs.length + 1 := by simp
    refine ⟨?_, ?_, ?_, ?_, ?_, ?_⟩
    · simp only [addS, ofI, hl]; omega
    · simp only [addS, ofI, hl]; rw [wr_in ⟨by omega, by omega⟩]; omega
    · simp only [addS, ofI, hl]; rw [wr_in ⟨by omega, by omega⟩]; omega
    · simp only [addS, ofI, hl]; rw [wr_in ⟨by omega, by omega⟩]; omega
    · rcases addS_mx (allS xs) (ofI x) with hq | hq <;> rw [hq]
      · exact h3
      · exact e5
    · rcases addS_at (allS xs) (ofI x) with hq | hq <;> rw [hq, hl]
      · simp only [ofI]; omega
      · omega
/-- Two sums can be added. -/
structure AddB (a b : Su) : Prop where
  n : I64 (a.n + b.n)
  at_ : I64 (a.n + b.at_)
theorem allS_at (xs : List It) : 0 ≤ (allS xs).at_ ∧ (allS xs).at_ ≤ xs.length := by
  induction xs using snoc_ind with
  | h0 => simp [allS, zeroS]
  | h1 xs x ih =>
    have := allS_n xs
    rw [allS_snoc, List.length_append, List.length_singleton]
    rcases addS_at (allS xs) (ofI x) with hq | hq <;> rw [hq]
    · simp only [ofI]; omega
    · omega
theorem AddB.all {xs ys : List It} (hx : xs.length ≤ 2000000) (hy : ys.length ≤ 2000000) : AddB (allS xs) (allS ys) := by
  have h1 := allS_n xs
  have h2 := allS_n ys
  have h3 := allS_at ys
  exact ⟨⟨by omega, by omega⟩, ⟨by omega, by omega⟩⟩
theorem AddB.one {xs : List It} (hx : xs.length ≤ 2000000) (y : It) : AddB (allS xs) (ofI y) := by
  have h1 := allS_n xs
  have h2 : (ofI y).n = 1 := rfl
  have h3 : (ofI y).at_ = 0 := rfl
  exact ⟨⟨by omega, by omega⟩, ⟨by omega, by omega⟩⟩
theorem ofI_bd {x : It} (h : ItOk x) : SuB (ofI x) 1 := by
  obtain ⟨h0, h1, h2, h3⟩ := h
  exact ⟨rfl, by simp [ofI]; omega, by simp [ofI]; omega, by simp [ofI]; omega, h3, by simp [ofI]⟩

theorem within_spec {w : World} (n : Int) : sCall Try.prog S.item_within.n [.int .i64 n] w fun u w' => w' = w ∧ u = .bool (decide (R40 n)) := by
  refine S.item_within.call ?_
  unfold S.item_within
  rw [sBin_geq, sIf_dec]
  refine ⟨fun h => ?_, fun h => ⟨rfl, ?_⟩⟩
  · rw [sBin_leq]
    exact ⟨rfl, by simp [h]⟩
  · have : ¬ R40 n := fun h' => h h'.1
    simp [this]

theorem check_spec {w : World} (x : It) : sCall Try.prog S.item_Check.n [.agg (encT x).toArray] w fun u w' => Ext w w' ∧ ∃ e : Int, u = .int .i64 e ∧ ((ItOk x ∧ e = 0) ∨ (¬ ItOk x ∧ e = 1)) := by
  refine S.item_Check.call ?_
  unfold S.item_Check
  refine sBox_new (cs := encT x) rfl fun b w1 hb hs1 e1 hk => ?_
  rw [sFldA_ptr S.tfl_item_Item_Max, sLoad_cell S.tcell_int (hk.cells.at 5 rfl)]
  refine (within_spec x.mx).mono ?_
  rintro u w2 ⟨rfl, rfl⟩
  rw [sFldA_ptr S.tfl_item_Item_D, sLoad_agg (cs := [.int .i64 x.d0, .int .i64 x.d1, .int .i64 x.d2]) S.tagg_A3_int (hk.cells.sub 2 3) rfl]
  refine LoopS.intro (fun us w3 => Ext w w3 ∧ ∃ (i : Nat) (t : Bool), us = [.bool t, .int .i64 i] ∧ i ≤ 3 ∧ (t = true ↔ R40 x.mx ∧ (0 < i → R40 x.d0) ∧ (1 < i → R40 x.d1) ∧ (2 < i → R40 x.d2)))
    (fun us _ => match us with | [_, .int _ a] => (3 - a).toNat | _ => 0) ⟨e1, 0, _, rfl, by omega, by simp⟩ ?_
  rintro us vs w3 ⟨e3, i, t, rfl, hi, ht⟩
  unfold S.item_Check_L1
  rw [hd, tl, hd, sBin_lss, sIf_dec]
  refine ⟨fun hlt => ?_, fun hge => ?_⟩
  · obtain ⟨d, hd3, hnext⟩ : ∃ d : Int, [x.d0, x.d1, x.d2][i]? = some d ∧ ((R40 x.mx ∧ (0 < i + 1 → R40 x.d0) ∧ (1 < i + 1 → R40 x.d1) ∧ (2 < i + 1 → R40 x.d2)) ↔ (R40 x.mx ∧ (0 < i → R40 x.d0) ∧ (1 < i → R40 x.d1) ∧ (2 < i → R40 x.d2)) ∧ R40 d) := by
      match i, hlt with
      | 0, _ => exact ⟨x.d0, rfl, by simp⟩
      | 1, _ => exact ⟨x.d1, rfl, by simp [and_assoc]⟩
      | 2, _ => exact ⟨x.d2, rfl, by simp [and_assoc]⟩
    have hv : (#[Value.int .i64 x.d0, .int .i64 x.d1, .int .i64 x.d2])[i]? = some (.int .i64 d) := by
      match i, hlt, hd3 with
      | 0, _, h => cases h; rfl
      | 1, _, h => cases h; rfl
      | 2, _, h => cases h; rfl
    rw [sIdx_cell S.tar_A3_int S.tcell_int S.tsz_int (by omega) rfl hv, sIf_bool]
    refine ⟨fun h => ?_, fun h => ?_⟩
    · refine (within_spec d).mono ?_
      rintro u w4 ⟨rfl, rfl⟩
      rw [sBin_add _ _ ⟨by omega, by omega⟩]
      refine ⟨⟨e3, i + 1, decide (R40 d), rfl, by omega, ?_⟩, by simp only []; omega⟩
      rw [hnext, ← ht, h, decide_eq_true_eq]; simp
    · rw [sBin_add _ _ ⟨by omega, by omega⟩]
      refine ⟨⟨e3, i + 1, false, rfl, by omega, ?_⟩, by simp only []; omega⟩
      rw [hnext, ← ht, h]; simp
  · obtain rfl : i = 3 := by omega
    have hok : t = true ↔ ItOk x := by
      rw [ht]
      exact ⟨fun ⟨a, b, c, d⟩ => ⟨b (by decide), c (by decide), d (by decide), a⟩, fun ⟨a, b, c, d⟩ => ⟨d, fun _ => a, fun _ => b, fun _ => c⟩⟩
    rw [sUn_not, sIf_bool]
    refine ⟨fun h => ⟨e3, 1, rfl, .inr ⟨fun h' => ?_, rfl⟩⟩, fun h => ⟨e3, 0, rfl, .inl ⟨hok.1 ?_, rfl⟩⟩⟩
    · rw [hok.2 h'] at h; cases h
    · simpa using h

theorem of_spec {w : World} (x : It) : sCall Try.prog S.item_Of.n [.agg (encT x).toArray] w fun u w' => Ext w w' ∧ u = .agg (encS (ofI x)).toArray := by
  refine S.item_Of.call ?_
  unfold S.item_Of
  refine sBox_new (cs := encT x) rfl fun b w1 hb hs1 e1 hk => ?_
  refine sAlloc_new S.tze_item_Sum fun b2 w2 hb2 hs2 e2 hk2 => ?_
  have k2 := hk.ext e2
  rw [sFldA_ptr S.tfl_item_Item_D, sLoad_agg (cs := [.int .i64 x.d0, .int .i64 x.d1, .int .i64 x.d2]) S.tagg_A3_int (k2.cells.sub 2 3) rfl, sFldA_ptr S.tfl_item_Item_Max, sLoad_cell S.tcell_int (k2.cells.at 5 rfl),
    sBuild_of (cs := encS (ofI x)) (lp := [(0, [.int .i64 1]), (1, [.int .i64 x.d0, .int .i64 x.d1, .int .i64 x.d2]), (2, [.int .i64 x.mx])]) S.tze_item_Sum S.tpl_item_Sum rfl rfl]
  refine sStore_blk S.tsz_item_Sum (by decide) hk2 (vs := encS (ofI x)) rfl rfl (by simp) (encS_one _) fun w3 hs3 hg3 hk3 => ?_
  rw [sLoad_agg (cs := encS (ofI x)) S.tagg_item_Sum hk3.cells rfl]
  exact ⟨rfl, (e1.trans e2).wr hg3 (by rintro _ ⟨⟩; have := e1.size; omega), rfl⟩

theorem add_spec {w : World} {a b : Su} (h : AddB a b) : sCall Try.prog S.item_Add.n [.agg (encS a).toArray, .agg (encS b).toArray] w fun u w' => Ext w w' ∧ u = .agg (encS (addS a b)).toArray := by
  refine S.item_Add.call ?_
  unfold S.item_Add
  refine sBox_new (cs := encS a) rfl fun b2 w1 hb2 hs1 e1 hk2 => ?_
  refine sBox_new (cs := encS b) rfl fun b3 w2 hb3 hs2 e2 hk3 => ?_
  refine sAlloc_new S.tze_item_Sum fun b4 w3 hb4 hs3 e3 hk4 => ?_
  have E3 := (e1.trans e2).trans e3
  have ka := (hk2.ext e2).ext e3
  have kb := hk3.ext e3
  rw [sFldA_ptr S.tfl_item_Sum_N, sLoad_cell S.tcell_int (ka.cells.at 0 rfl), sFldA_ptr S.tfl_item_Sum_N, sLoad_cell S.tcell_int (kb.cells.at 0 rfl), sBin_add _ _ h.n,
    sFldA_ptr S.tfl_item_Sum_Max, sLoad_cell S.tcell_int (ka.cells.at 4 rfl), sFldA_ptr S.tfl_item_Sum_At, sLoad_cell S.tcell_int (ka.cells.at 5 rfl),
    sBuild_of (cs := encS ⟨a.n + b.n, 0, 0, 0, a.mx, a.at_⟩) (lp := [(0, [.int .i64 (a.n + b.n)]), (2, [.int .i64 a.mx]), (3, [.int .i64 a.at_])]) S.tze_item_Sum S.tpl_item_Sum rfl rfl]
  refine sVar (vs := encS ⟨a.n + b.n, 0, 0, 0, a.mx, a.at_⟩) S.tze_item_Sum S.tsz_item_Sum (by decide) rfl rfl (encS_one _) fun b5 w4 hb5 hs4 e4 hk5 => ?_
  have s1 := e1.size
  refine LoopS.intro (fun us w5 => Ext w w5 ∧ Blk w5 b2 (encS a) ∧ Blk w5 b3 (encS b) ∧ Blk w5 b4 (encS zeroS) ∧ ∃ i : Nat, us = [.int .i64 i] ∧ i ≤ 3 ∧
      Blk w5 b5 (encS ⟨a.n + b.n, if 0 < i then wr (a.d0 + b.d0) else 0, if 1 < i then wr (a.d1 + b.d1) else 0, if 2 < i then wr (a.d2 + b.d2) else 0, a.mx, a.at_⟩))
    (fun us _ => match us with | [.int _ a] => (3 - a).toNat | _ => 0) ⟨E3.trans e4, ka.ext e4, kb.ext e4, hk4.ext e4, 0, rfl, by omega, hk5⟩ ?_
  rintro us vs w5 ⟨E5, ka, kb, k4, i, rfl, hi, ks⟩
  unfold S.item_Add_L1
  rw [hd, sBin_lss, sIf_dec]
  refine ⟨fun hlt => ?_, fun hge => ?_⟩
  · refine DrawS.ext ?_
    have E : Ext w5 w5.drew := (Ext.refl w5).drew
    have key : ∀ w6, Ext w w6 → Blk w6 b2 (encS a) → Blk w6 b3 (encS b) → Blk w6 b4 (encS zeroS) →
        Blk w6 b5 (encS ⟨a.n + b.n, if 0 < i + 1 then wr (a.d0 + b.d0) else 0, if 1 < i + 1 then wr (a.d1 + b.d1) else 0, if 2 < i + 1 then wr (a.d2 + b.d2) else 0, a.mx, a.at_⟩) →
        ((Ext w w6 ∧ Blk w6 b2 (encS a) ∧ Blk w6 b3 (encS b) ∧ Blk w6 b4 (encS zeroS) ∧ ∃ j : Nat, [Value.int .i64 ((i : Int) + 1)] = [.int .i64 j] ∧ j ≤ 3 ∧
          Blk w6 b5 (encS ⟨a.n + b.n, if 0 < j then wr (a.d0 + b.d0) else 0, if 1 < j then wr (a.d1 + b.d1) else 0, if 2 < j then wr (a.d2 + b.d2) else 0, a.mx, a.at_⟩)) ∧ (3 - ((i : Int) + 1)).toNat < (3 - (i : Int)).toNat) :=
      fun w6 h1 h2 h3 h4 h5 => ⟨⟨h1, h2, h3, h4, i + 1, by simp, by omega, h5⟩, by omega⟩
    have hw : ∀ w6, w6.heap.size = w5.drew.heap.size → Wr b5 w5.drew w6 → Ext w w6 ∧ Blk w6 b2 (encS a) ∧ Blk w6 b3 (encS b) ∧ Blk w6 b4 (encS zeroS) := fun w6 hs hg =>
      ⟨(E5.trans E).wr hg (by rintro _ ⟨⟩; omega), (ka.ext E).wr hg (by intro e; cases e; omega), (kb.ext E).wr hg (by intro e; cases e; omega), (k4.ext E).wr hg (by intro e; cases e; omega)⟩
    rw [stillS_eq (fun w1 h1 K => sFldA_ptr S.tfl_item_Sum_D) E, stillS_eq (fun w1 h1 K => sIdxA_arr (i := i) S.tar_A3_int S.tsz_int (by omega) (by omega) rfl) E]
    match i, hi, hlt with
    | 0, _, _ =>
      rw [stillS_cell S.tcell_int (ka.cells.at 1 rfl) E, stillS_eq (fun w1 h1 K => sFldA_ptr S.tfl_item_Sum_D) E, stillS_eq (fun w1 h1 K => sIdxA_arr (i := 0) S.tar_A3_int S.tsz_int (by omega) (by omega) rfl) E, stillS_cell S.tcell_int (kb.cells.at 1 rfl) E,
        stillS_eq (fun w1 h1 K => sBin_addw _ _) E, stillS_eq (fun w1 h1 K => sFldA_ptr S.tfl_item_Sum_D) E, stillS_eq (fun w1 h1 K => sIdxA_arr (i := 0) S.tar_A3_int S.tsz_int (by omega) (by omega) rfl) E]
      refine sStore_blk (vs := [.int .i64 (wr (a.d0 + b.d0))]) S.tsz_int (by decide) (ks.ext E) rfl rfl (by simp [encS]) (by simp; rfl) fun w6 hs6 hg6 hk6 => ?_
      rw [sBin_add _ _ ⟨by omega, by omega⟩]
      obtain ⟨q1, q2, q3, q4⟩ := hw w6 hs6 hg6
      exact key w6 q1 q2 q3 q4 hk6
    | 1, _, _ =>
      rw [stillS_cell S.tcell_int (ka.cells.at 2 rfl) E, stillS_eq (fun w1 h1 K => sFldA_ptr S.tfl_item_Sum_D) E, stillS_eq (fun w1 h1 K => sIdxA_arr (i := 1) S.tar_A3_int S.tsz_int (by omega) (by omega) rfl) E, stillS_cell S.tcell_int (kb.cells.at 2 rfl) E,
        stillS_eq (fun w1 h1 K => sBin_addw _ _) E, stillS_eq (fun w1 h1 K => sFldA_ptr S.tfl_item_Sum_D) E, stillS_eq (fun w1 h1 K => sIdxA_arr (i := 1) S.tar_A3_int S.tsz_int (by omega) (by omega) rfl) E]
      refine sStore_blk (vs := [.int .i64 (wr (a.d1 + b.d1))]) S.tsz_int (by decide) (ks.ext E) rfl rfl (by simp [encS]) (by simp; rfl) fun w6 hs6 hg6 hk6 => ?_
      rw [sBin_add _ _ ⟨by omega, by omega⟩]
      obtain ⟨q1, q2, q3, q4⟩ := hw w6 hs6 hg6
      exact key w6 q1 q2 q3 q4 hk6
    | 2, _, _ =>
      rw [stillS_cell S.tcell_int (ka.cells.at 3 rfl) E, stillS_eq (fun w1 h1 K => sFldA_ptr S.tfl_item_Sum_D) E, stillS_eq (fun w1 h1 K => sIdxA_arr (i := 2) S.tar_A3_int S.tsz_int (by omega) (by omega) rfl) E, stillS_cell S.tcell_int (kb.cells.at 3 rfl) E,
        stillS_eq (fun w1 h1 K => sBin_addw _ _) E, stillS_eq (fun w1 h1 K => sFldA_ptr S.tfl_item_Sum_D) E, stillS_eq (fun w1 h1 K => sIdxA_arr (i := 2) S.tar_A3_int S.tsz_int (by omega) (by omega) rfl) E]
      refine sStore_blk (vs := [.int .i64 (wr (a.d2 + b.d2))]) S.tsz_int (by decide) (ks.ext E) rfl rfl (by simp [encS]) (by simp; rfl) fun w6 hs6 hg6 hk6 => ?_
      rw [sBin_add _ _ ⟨by omega, by omega⟩]
      obtain ⟨q1, q2, q3, q4⟩ := hw w6 hs6 hg6
      exact key w6 q1 q2 q3 q4 hk6
  · obtain rfl : i = 3 := by omega
    refine JoinS.intro (fun us w' => w' = w5 ∧ ∃ t : Bool, us = [.bool t] ∧ (t = true ↔ Hi a b)) ?_ ?_
    · rw [sFldA_ptr S.tfl_item_Sum_N, sLoad_cell S.tcell_int (kb.cells.at 0 rfl), sBin_gtr, sIf_dec]
      refine ⟨fun h1 => ?_, fun h1 => ⟨rfl, false, rfl, by simp; omega⟩⟩
      rw [sFldA_ptr S.tfl_item_Sum_N, sLoad_cell S.tcell_int (ka.cells.at 0 rfl), sBin_eql, sIf_dec]
      refine ⟨fun h2 => ⟨rfl, true, rfl, by simp [Hi, h1, h2]⟩, fun h2 => ?_⟩
      rw [sFldA_ptr S.tfl_item_Sum_Max, sLoad_cell S.tcell_int (kb.cells.at 4 rfl), sFldA_ptr S.tfl_item_Sum_Max, sLoad_cell S.tcell_int (ka.cells.at 4 rfl), sBin_gtr]
      exact ⟨rfl, _, rfl, by simp [Hi, h1, h2]⟩
    rintro us vs w5 ⟨rfl, t, rfl, ht⟩
    unfold S.item_Add_J2
    have hfin : ∀ (s : Su) w6, Ext w w6 → Blk w6 b4 (encS zeroS) → Blk w6 b5 (encS s) → addS a b = s →
        sLoad Try.prog S.T.item_Sum (.pointer (some ⟨b5, 0, none⟩)) w6 fun x w1 => sStore Try.prog S.T.item_Sum (.pointer (some ⟨b4, 0, none⟩)) x w1 fun w2 =>
          sLoad Try.prog S.T.item_Sum (.pointer (some ⟨b4, 0, none⟩)) w2 fun v w' => w' = w2 ∧ (Ext w w2 ∧ v = .agg (encS (addS a b)).toArray) := by
      intro s w6 E6 k4 k5 hs
      rw [sLoad_agg (cs := encS s) S.tagg_item_Sum k5.cells rfl]
      refine sStore_blk S.tsz_item_Sum (by decide) k4 (vs := encS s) rfl rfl (by simp [encS]) (encS_one _) fun w7 hs7 hg7 hk7 => ?_
      rw [sLoad_agg (cs := encS s) S.tagg_item_Sum hk7.cells rfl, hs]
      exact ⟨rfl, E6.wr hg7 (by rintro _ ⟨⟩; omega), rfl⟩
    rw [hd, sIf_bool]
    refine ⟨fun h1 => ?_, fun h0 => ?_⟩
    · have hH := ht.1 h1
      have C0 : Wr b5 w5 w5.drew := grown_drew _ _
      have n2 : some b2 ≠ some b5 := by intro e; cases e; omega
      have n3 : some b3 ≠ some b5 := by intro e; cases e; omega
      have n4 : some b4 ≠ some b5 := by intro e; cases e; omega
      refine DrawS.intro (fun w1 => Wr b5 w5 w1) C0 ?_
      rw [stillC_eq (fun w1 h1 K => sFldA_ptr S.tfl_item_Sum_Max) C0, stillC_eq (fun w1 h1 K => sLoad_cell S.tcell_int ((kb.cells.wr h1 n3).at 4 rfl)) C0,
        stillC_eq (fun w1 h1 K => sFldA_ptr S.tfl_item_Sum_N) C0, stillC_eq (fun w1 h1 K => sLoad_cell S.tcell_int ((ka.cells.wr h1 n2).at 0 rfl)) C0,
        stillC_eq (fun w1 h1 K => sFldA_ptr S.tfl_item_Sum_At) C0, stillC_eq (fun w1 h1 K => sLoad_cell S.tcell_int ((kb.cells.wr h1 n3).at 5 rfl)) C0,
        stillC_eq (fun w1 h1 K => sBin_add _ _ h.at_) C0, stillC_eq (fun w1 h1 K => sFldA_ptr S.tfl_item_Sum_Max) C0]
      refine sStore_blk (vs := [.int .i64 b.mx]) S.tsz_int (by decide) (ks.ext (Ext.refl w5).drew) rfl rfl (by simp [encS]) (by simp; rfl) fun w6 hs6 hg6 hk6 => ?_
      have C6 : Wr b5 w5 w6 := grown_trans C0 hg6
      refine ⟨C6, ?_⟩
      rw [stillC_eq (fun w1 h1 K => sFldA_ptr S.tfl_item_Sum_At) C6]
      refine sStore_blk (vs := [.int .i64 (a.n + b.at_)]) S.tsz_int (by decide) hk6 rfl rfl (by simp [encS, splice]) (by simp; rfl) fun w7 hs7 hg7 hk7 => ?_
      have C7 : Wr b5 w5 w7 := grown_trans C6 hg7
      refine hfin (addS a b) w7 (E5.wr C7 (by rintro _ ⟨⟩; omega)) (k4.wr C7 n4) ?_ rfl
      have : addS a b = ⟨a.n + b.n, wr (a.d0 + b.d0), wr (a.d1 + b.d1), wr (a.d2 + b.d2), b.mx, a.n + b.at_⟩ := by unfold addS; rw [if_pos hH, if_pos hH]
      rw [this]
      exact hk7
    · have hH : ¬ Hi a b := fun h' => by rw [ht.2 h'] at h0; cases h0
      refine hfin _ w5 E5 k4 ks ?_
      unfold addS; rw [if_neg hH, if_neg hH]; rfl

theorem all_spec {w : World} {l : Value} {xs : List It} (hl : Sl w l 7 encT xs) (hn : xs.length ≤ 1000000) : sCall Try.prog S.item_All.n [l] w fun u w' => Ext w w' ∧ u = .agg (encS (allS xs)).toArray := by
  refine S.item_All.call ?_
  unfold S.item_All
  refine sAlloc_new S.tze_item_Sum fun b2 w1 hb2 hs1 e1 hk2 => ?_
  refine sAlloc_new S.tze_item_Sum fun b3 w2 hb3 hs2 e2 hk3 => ?_
  have E2 := e1.trans e2
  have s1 := e1.size
  rw [sLen_sl S.tel_L_item_Item (hl.ext E2)]
  refine LoopS.intro (fun us w3 => Ext w w3 ∧ Blk w3 b2 (encS zeroS) ∧ ∃ i : Nat, us = [.int .i64 i] ∧ i ≤ xs.length ∧ Blk w3 b3 (encS (allS (xs.take i))))
    (fun us _ => match us with | [.int _ a] => (xs.length - a).toNat | _ => 0) ⟨E2, hk2.ext e2, 0, rfl, by omega, hk3⟩ ?_
  rintro us vs w3 ⟨E3, k2, i, rfl, hi, k3⟩
  unfold S.item_All_L1
  rw [hd, sBin_lss, sIf_dec]
  refine ⟨fun hlt => ?_, fun hge => ?_⟩
  · obtain ⟨x, hxi⟩ : ∃ x, xs[i]? = some x := ⟨_, List.getElem?_eq_getElem (by omega)⟩
    obtain ⟨b, o, hel, hc⟩ := (hl.ext E3).el hxi
    rw [sIdxA_sl S.tel_L_item_Item S.tsz_item_Item (by omega) (hl.ext E3) hxi rfl, hel, sLoad_agg S.tagg_item_Item hc rfl]
    refine sVar S.tze_item_Item S.tsz_item_Item (by decide) rfl rfl (encT_ok.one x) fun b4 w4 hb4 hs4 e4 hk4 => ?_
    refine DrawS.ext ?_
    have E : Ext w4 w4.drew := (Ext.refl w4).drew
    rw [stillS_agg (cs := encS (allS (xs.take i))) S.tagg_item_Sum (k3.ext e4).cells rfl E, stillS_agg (cs := encT x) S.tagg_item_Item hk4.cells rfl E]
    refine (of_spec x).mono ?_
    rintro u w5 ⟨e5, rfl⟩
    have F5 := E.trans e5
    refine ⟨F5, ?_⟩
    have hlt' : (xs.take i).length = i := by rw [List.length_take]; omega
    refine (add_spec (AddB.one (by omega) x)).mono ?_
    rintro u w6 ⟨e6, rfl⟩
    have G := (e4.trans F5).trans e6
    refine sStore_blk S.tsz_item_Sum (by decide) (k3.ext G) (vs := encS (addS (allS (xs.take i)) (ofI x))) rfl rfl (by simp [encS]) (encS_one _) fun w7 hs7 hg7 hk7 => ?_
    rw [sBin_add _ _ ⟨by omega, by omega⟩]
    have hG := (E3.trans G).size
    refine ⟨⟨(E3.trans G).wr hg7 (by rintro _ ⟨⟩; omega), (k2.ext G).wr hg7 (by intro e; cases e; omega), i + 1, by simp, by omega, ?_⟩, by simp only []; omega⟩
    rw [take_succ_of hxi, allS_snoc]
    exact hk7
  · obtain rfl : i = xs.length := by omega
    rw [List.take_length] at k3
    rw [sLoad_agg (cs := encS (allS xs)) S.tagg_item_Sum k3.cells rfl]
    refine sStore_blk S.tsz_item_Sum (by decide) k2 (vs := encS (allS xs)) rfl rfl (by simp [encS]) (encS_one _) fun w7 hs7 hg7 hk7 => ?_
    rw [sLoad_agg (cs := encS (allS xs)) S.tagg_item_Sum hk7.cells rfl]
    exact ⟨rfl, E3.wr hg7 (by rintro _ ⟨⟩; omega), rfl⟩
end Go.Proofs.Ytmlbaimdphillaa
