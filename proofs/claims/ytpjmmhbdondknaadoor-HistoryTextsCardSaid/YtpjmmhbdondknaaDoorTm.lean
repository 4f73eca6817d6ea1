/- Items and their sums: what the item package's functions give. Conditions: sizes that can be summed. Nodes of trees: what they hold, how they are made. Conditions: right items, not too many. Rows of nodes: put together, halved, melded, joined. Conditions: right items, not too many. -/
import Derived.Test.YtpjmmhbdondknaaDoorS
namespace Go.Proofs.YtpjmmhbdondknaaDoor
open Go Go.Lift Go.RowKit

theorem take_succ_of {α : Type} {l : List α} {i : Nat} {x : α} (h : l[i]? = some x) : l.take (i + 1) = l.take i ++ [x] := by
  rw [List.take_add_one, h]; rfl
theorem drop_cons_of {α : Type} {l : List α} {i : Nat} {x : α} (h : l[i]? = some x) : l.drop i = x :: l.drop (i + 1) := by
  obtain ⟨h1, h2⟩ := List.getElem?_eq_some_iff.1 h
  rw [List.drop_eq_getElem_cons h1, h2]

theorem snoc_ind {α : Type} {P : List α → Prop} (h0 : P []) (h1 : ∀ xs x, P xs → P (xs ++ [x])) (xs : List α) : P xs := by
  rw [← List.reverse_reverse xs]
  induction xs.reverse with
  | nil => exact h0
  | cons x ys ih => rw [List.reverse_cons]; exact h1 _ x ih
/-- An item: its tag, its number, three sizes, its Max, its text. -/
structure It where
  tag : Int
  id : Int
  d0 : Int
  d1 : Int
  d2 : Int
  mx : Int
  text : ByteArray
def encT (x : It) : List Value := [.int .i64 x.tag, .int .i64 x.id, .int .i64 x.d0, .int .i64 x.d1, .int .i64 x.d2, .int .i64 x.mx, .string x.text]
theorem encT_ok : Enc encT 7 := ⟨fun _ => rfl, fun x u hu => by simp [encT] at hu; rcases hu with rfl | rfl | rfl | rfl | rfl | rfl | rfl <;> rfl⟩
theorem encT_inj {x y : It} (h : encT x = encT y) : x = y := by
  cases x; cases y; simp [encT] at h
  obtain ⟨rfl, rfl, rfl, rfl, rfl, rfl, rfl⟩ := h; rfl
/-- A sum: how many, three sizes, the greatest Max, where it is. -/
structure Su where
  n : Int
  d0 : Int
  d1 : Int
  d2 : Int
  mx : Int
  at_ : Int
def encS (x : Su) : List Value := [.int .i64 x.n, .int .i64 x.d0, .int .i64 x.d1, .int .i64 x.d2, .int .i64 x.mx, .int .i64 x.at_]
theorem encS_one (x : Su) : ∀ u ∈ encS x, u.oneCell' = true := fun u hu => by simp [encS] at hu; rcases hu with rfl | rfl | rfl | rfl | rfl | rfl <;> rfl
theorem encS_inj {x y : Su} (h : encS x = encS y) : x = y := by
  cases x; cases y; simp [encS] at h
  obtain ⟨rfl, rfl, rfl, rfl, rfl, rfl⟩ := h; rfl

abbrev R40 (n : Int) : Prop := 0 ≤ n ∧ n ≤ 1099511627776
abbrev ItOk (x : It) : Prop := R40 x.d0 ∧ R40 x.d1 ∧ R40 x.d2 ∧ R40 x.mx
def ofI (x : It) : Su := ⟨1, x.d0, x.d1, x.d2, x.mx, 0⟩
abbrev Hi (a b : Su) : Prop := 0 < b.n ∧ (a.n = 0 ∨ a.mx < b.mx)
abbrev wr (n : Int) : Int := IntKind.i64.wrap n
theorem wr_eq (n : Int) : wr n = if n % 18446744073709551616 ≥ 9223372036854775808 then n % 18446744073709551616 - 18446744073709551616 else n % 18446744073709551616 := by
  have h1 : IntKind.i64.bits = 64 := rfl
  have h2 : IntKind.i64.signed = true := rfl
  unfold wr IntKind.wrap
  rw [h1, h2]
  simp
theorem wr_in {n : Int} (h : I64 n) : wr n = n := IntWalk.i64_in _ h
theorem wr_left (a b : Int) : wr (wr a + b) = wr (a + b) := by rw [wr_eq, wr_eq, wr_eq]; split <;> split <;> split <;> omega
theorem wr_right (a b : Int) : wr (a + wr b) = wr (a + b) := by rw [wr_eq, wr_eq, wr_eq]; split <;> split <;> split <;> omega
theorem wr_wr (a : Int) : wr (wr a) = wr a := by have := wr_left a 0; simpa using this
def addS (a b : Su) : Su := ⟨a.n + b.n, wr (a.d0 + b.d0), wr (a.d1 + b.d1), wr (a.d2 + b.d2), if Hi a b then b.mx else a.mx, if Hi a b then a.n + b.at_ else a.at_⟩
def zeroS : Su := ⟨0, 0, 0, 0, 0, 0⟩
def allS (xs : List It) : Su := xs.foldl (fun s x => addS s (ofI x)) zeroS

theorem allS_nil : allS [] = zeroS := rfl
theorem allS_snoc (xs : List It) (x : It) : allS (xs ++ [x]) = addS (allS xs) (ofI x) := by simp [allS]
theorem allS_n (xs : List It) : (allS xs).n = xs.length := by
  induction xs using snoc_ind with
  | h0 => rfl
  | h1 xs x ih => rw [allS_snoc]; simp [addS, ofI, ih]
theorem Su.ext {p q : Su} (a : p.n = q.n) (b : p.d0 = q.d0) (c : p.d1 = q.d1) (d : p.d2 = q.d2) (e : p.mx = q.mx) (f : p.at_ = q.at_) : p = q := by
  cases p; cases q; simp at a b c d e f; rw [a, b, c, d, e, f]
theorem addS_assoc (a b c : Su) (ha : 0 ≤ a.n) (hb : 0 ≤ b.n) (hc : 0 < c.n) : addS (addS a b) c = addS a (addS b c) := by
  apply Su.ext <;> simp only [addS, Hi]
  · omega
  · rw [wr_left, wr_right, Int.add_assoc]
  · rw [wr_left, wr_right, Int.add_assoc]
  · rw [wr_left, wr_right, Int.add_assoc]
  · repeat' split
    all_goals omega
  · repeat' split
    all_goals omega
/-- Sums whose sizes are wrapped. -/
structure SuW (s : Su) : Prop where
  d0 : wr s.d0 = s.d0
  d1 : wr s.d1 = s.d1
  d2 : wr s.d2 = s.d2
theorem addS_w (a b : Su) : SuW (addS a b) := ⟨wr_wr _, wr_wr _, wr_wr _⟩
theorem allS_w (xs : List It) : SuW (allS xs) := by
  induction xs using snoc_ind with
  | h0 => exact ⟨rfl, rfl, rfl⟩
  | h1 xs x ih => rw [allS_snoc]; exact addS_w _ _
theorem addS_zero {a : Su} (h : SuW a) : addS a zeroS = a := by
  apply Su.ext <;> simp [addS, zeroS, Hi]
  · exact h.d0
  · exact h.d1
  · exact h.d2
theorem allS_append (a b : List It) : allS (a ++ b) = addS (allS a) (allS b) := by
  induction b using snoc_ind with
  | h0 => rw [List.append_nil, allS_nil, addS_zero (allS_w a)]
  | h1 b x ih =>
    rw [← List.append_assoc, allS_snoc, allS_snoc, ih, addS_assoc]
    · rw [allS_n]; omega
    · rw [allS_n]; omega
    · simp [ofI]
theorem addS_mx (a b : Su) : (addS a b).mx = b.mx ∨ (addS a b).mx = a.mx := by unfold addS; dsimp only; split <;> simp
theorem addS_at (a b : Su) : (addS a b).at_ = a.n + b.at_ ∨ (addS a b).at_ = a.at_ := by unfold addS; dsimp only; split <;> simp
/-- A sum within bounds. -/
structure SuB (s : Su) (m : Nat) : Prop where
  n : s.n = m
  d0 : 0 ≤ s.d0 ∧ s.d0 ≤ 1099511627776 * m
  d1 : 0 ≤ s.d1 ∧ s.d1 ≤ 1099511627776 * m
  d2 : 0 ≤ s.d2 ∧ s.d2 ≤ 1099511627776 * m
  mx : R40 s.mx
  at_ : 0 ≤ s.at_ ∧ s.at_ ≤ m
theorem allS_bd {xs : List It} (hn : xs.length ≤ 1000000) (h : ∀ x ∈ xs, ItOk x) : SuB (allS xs) xs.length := by
  induction xs using snoc_ind with
  | h0 => exact ⟨rfl, by simp [allS, zeroS], by simp [allS, zeroS], by simp [allS, zeroS], ⟨by simp [allS, zeroS], by simp [allS, zeroS]⟩, by simp [allS, zeroS]⟩
  | h1 xs x ih =>
    rw [List.length_append, List.length_singleton] at hn
    have i := ih (by omega) fun y hy => h y (by simp [hy])
    obtain ⟨h0, h1, h2, h3⟩ := h x (by simp)
    have e1 := i.n; have e2 := i.d0; have e3 := i.d1; have e4 := i.d2; have e5 := i.mx; have e6 := i.at_
    rw [allS_snoc]
    have hl : (xs ++ [x]).length = xs.length + 1 := by simp
    refine ⟨?_, ?_, ?_, ?_, ?_, ?_⟩
    · simp only [addS, ofI, hl]; omega
    · simp only [addS, ofI, hl]; rw [wr_in ⟨by omega, by omega⟩]; omega
    · simp only [addS, ofI, hl]; rw [wr_in ⟨by omega, by omega⟩]; omega
    · simp only [addS, ofI, hl]; rw [wr_in ⟨by omega, by omega⟩]; omega
    · rcases addS_mx (allS xs) (ofI x) with hq | hq <;> rw [hq]
      · exact h3
      · exact e5
    · rcases addS_at (allS xs) (ofI x) with hq | hq <;> rw [hq, hl]
      · simp only [ofI]; omega
      · omega
/-- Two sums can be added. -/
structure AddB (a b : Su) : Prop where
  n : I64 (a.n + b.n)
  at_ : I64 (a.n + b.at_)
theorem allS_at (xs : List It) : 0 ≤ (allS xs).at_ ∧ (allS xs).at_ ≤ xs.length := by
  induction xs using snoc_ind with
  | h0 => simp [allS, zeroS]
  | h1 xs x ih =>
    have := allS_n xs
    rw [allS_snoc, List.length_append, List.length_singleton]
    rcases addS_at (allS xs) (ofI x) with hq | hq <;> rw [hq]
    · simp only [ofI]; omega
    · omega
theorem AddB.all {xs ys : List It} (hx : xs.length ≤ 2000000) (hy : ys.length ≤ 2000000) : AddB (allS xs) (allS ys) := by
  have h1 := allS_n xs
  have h2 := allS_n ys
  have h3 := allS_at ys
  exact ⟨⟨by omega, by omega⟩, ⟨by omega, by omega⟩⟩
theorem AddB.one {xs : List It} (hx : xs.length ≤ 2000000) (y : It) : AddB (allS xs) (ofI y) := by
  have h1 := allS_n xs
  have h2 : (ofI y).n = 1 := rfl
  have h3 : (ofI y).at_ = 0 := rfl
  exact ⟨⟨by omega, by omega⟩, ⟨by omega, by omega⟩⟩
theorem ofI_bd {x : It} (h : ItOk x) : SuB (ofI x) 1 := by
  obtain ⟨h0, h1, h2, h3⟩ := h
  exact ⟨rfl, by simp [ofI]; omega, by simp [ofI]; omega, by simp [ofI]; omega, h3, by simp [ofI]⟩

theorem within_spec {w : World} (n : Int) : sCall Tryd.prog S.item_within.n [.int .i64 n] w fun u w' => w' = w ∧ u = .bool (decide (R40 n)) := by
  refine S.item_within.call ?_
  unfold S.item_within
  rw [sBin_geq, sIf_dec]
  refine ⟨fun h => ?_, fun h => ⟨rfl, ?_⟩⟩
  · rw [sBin_leq]
    exact ⟨rfl, by simp [h]⟩
  · have : ¬ R40 n := fun h' => h h'.1
    simp [this]

theorem check_spec {w : World} (x : It) : sCall Tryd.prog S.item_Check.n [.agg (encT x).toArray] w fun u w' => Ext w w' ∧ ∃ e : Int, u = .int .i64 e ∧ ((ItOk x ∧ e = 0) ∨ (¬ ItOk x ∧ e = 1)) := by
  refine S.item_Check.call ?_
  unfold S.item_Check
  refine sBox_new (cs := encT x) rfl fun b w1 hb hs1 e1 hk => ?_
  rw [sFldA_ptr S.tfl_item_Item_Max, sLoad_cell S.tcell_int (hk.cells.at 5 rfl)]
  refine (within_spec x.mx).mono ?_
  rintro u w2 ⟨rfl, rfl⟩
  rw [sFldA_ptr S.tfl_item_Item_D, sLoad_agg (cs := [.int .i64 x.d0, .int .i64 x.d1, .int .i64 x.d2]) S.tagg_A3_int (hk.cells.sub 2 3) rfl]
  refine LoopS.intro (fun us w3 => Ext w w3 ∧ ∃ (i : Nat) (t : Bool), us = [.bool t, .int .i64 i] ∧ i ≤ 3 ∧ (t = true ↔ R40 x.mx ∧ (0 < i → R40 x.d0) ∧ (1 < i → R40 x.d1) ∧ (2 < i → R40 x.d2)))
    (fun us _ => match us with | [_, .int _ a] => (3 - a).toNat | _ => 0) ⟨e1, 0, _, rfl, by omega, by simp⟩ ?_
  rintro us vs w3 ⟨e3, i, t, rfl, hi, ht⟩
  unfold S.item_Check_L1
  rw [hd, tl, hd, sBin_lss, sIf_dec]
  refine ⟨fun hlt => ?_, fun hge => ?_⟩
  · obtain ⟨d, hd3, hnext⟩ : ∃ d : Int, [x.d0, x.d1, x.d2][i]? = some d ∧ ((R40 x.mx ∧ (0 < i + 1 → R40 x.d0) ∧ (1 < i + 1 → R40 x.d1) ∧ (2 < i + 1 → R40 x.d2)) ↔ (R40 x.mx ∧ (0 < i → R40 x.d0) ∧ (1 < i → R40 x.d1) ∧ (2 < i → R40 x.d2)) ∧ R40 d) := by
      match i, hlt with
      | 0, _ => exact ⟨x.d0, rfl, by simp⟩
      | 1, _ => exact ⟨x.d1, rfl, by simp [and_assoc]⟩
      | 2, _ => exact ⟨x.d2, rfl, by simp [and_assoc]⟩
    have hv : (#[Value.int .i64 x.d0, .int .i64 x.d1, .int .i64 x.d2])[i]? = some (.int .i64 d) := by
      match i, hlt, hd3 with
      | 0, _, h => cases h; rfl
      | 1, _, h => cases h; rfl
      | 2, _, h => cases h; rfl
    rw [sIdx_cell S.tar_A3_int S.tcell_int S.tsz_int (by omega) rfl hv, sIf_bool]
    refine ⟨fun h => ?_, fun h => ?_⟩
    · refine (within_spec d).mono ?_
      rintro u w4 ⟨rfl, rfl⟩
      rw [sBin_add _ _ ⟨by omega, by omega⟩]
      refine ⟨⟨e3, i + 1, decide (R40 d), rfl, by omega, ?_⟩, by simp only []; omega⟩
      rw [hnext, ← ht, h, decide_eq_true_eq]; simp
    · rw [sBin_add _ _ ⟨by omega, by omega⟩]
      refine ⟨⟨e3, i + 1, false, rfl, by omega, ?_⟩, by simp only []; omega⟩
      rw [hnext, ← ht, h]; simp
  · obtain rfl : i = 3 := by omega
    have hok : t = true ↔ ItOk x := by
      rw [ht]
      exact ⟨fun ⟨a, b, c, d⟩ => ⟨b (by decide), c (by decide), d (by decide), a⟩, fun ⟨a, b, c, d⟩ => ⟨d, fun _ => a, fun _ => b, fun _ => c⟩⟩
    rw [sUn_not, sIf_bool]
    refine ⟨fun h => ⟨e3, 1, rfl, .inr ⟨fun h' => ?_, rfl⟩⟩, fun h => ⟨e3, 0, rfl, .inl ⟨hok.1 ?_, rfl⟩⟩⟩
    · rw [hok.2 h'] at h; cases h
    · simpa using h

theorem of_spec {w : World} (x : It) : sCall Tryd.prog S.item_Of.n [.agg (encT x).toArray] w fun u w' => Ext w w' ∧ u = .agg (encS (ofI x)).toArray := by
  refine S.item_Of.call ?_
  unfold S.item_Of
  refine sBox_new (cs := encT x) rfl fun b w1 hb hs1 e1 hk => ?_
  refine sAlloc_new S.tze_item_Sum fun b2 w2 hb2 hs2 e2 hk2 => ?_
  have k2 := hk.ext e2
  rw [sFldA_ptr S.tfl_item_Item_D, sLoad_agg (cs := [.int .i64 x.d0, .int .i64 x.d1, .int .i64 x.d2]) S.tagg_A3_int (k2.cells.sub 2 3) rfl, sFldA_ptr S.tfl_item_Item_Max, sLoad_cell S.tcell_int (k2.cells.at 5 rfl),
    sBuild_of (cs := encS (ofI x)) (lp := [(0, [.int .i64 1]), (1, [.int .i64 x.d0, .int .i64 x.d1, .int .i64 x.d2]), (2, [.int .i64 x.mx])]) S.tze_item_Sum S.tpl_item_Sum rfl rfl]
  refine sStore_blk S.tsz_item_Sum (by decide) hk2 (vs := encS (ofI x)) rfl rfl (by simp) (encS_one _) fun w3 hs3 hg3 hk3 => ?_
  rw [sLoad_agg (cs := encS (ofI x)) S.tagg_item_Sum hk3.cells rfl]
  exact ⟨rfl, (e1.trans e2).wr hg3 (by rintro _ ⟨⟩; have := e1.size; omega), rfl⟩

theorem add_spec {w : World} {a b : Su} (h : AddB a b) : sCall Tryd.prog S.item_Add.n [.agg (encS a).toArray, .agg (encS b).toArray] w fun u w' => Ext w w' ∧ u = .agg (encS (addS a b)).toArray := by
  refine S.item_Add.call ?_
  unfold S.item_Add
  refine sBox_new (cs := encS a) rfl fun b2 w1 hb2 hs1 e1 hk2 => ?_
  refine sBox_new (cs := encS b) rfl fun b3 w2 hb3 hs2 e2 hk3 => ?_
  refine sAlloc_new S.tze_item_Sum fun b4 w3 hb4 hs3 e3 hk4 => ?_
  have E3 := (e1.trans e2).trans e3
  have ka := (hk2.ext e2).ext e3
  have kb := hk3.ext e3
  rw [sFldA_ptr S.tfl_item_Sum_N, sLoad_cell S.tcell_int (ka.cells.at 0 rfl), sFldA_ptr S.tfl_item_Sum_N, sLoad_cell S.tcell_int (kb.cells.at 0 rfl), sBin_add _ _ h.n,
    sFldA_ptr S.tfl_item_Sum_Max, sLoad_cell S.tcell_int (ka.cells.at 4 rfl), sFldA_ptr S.tfl_item_Sum_At, sLoad_cell S.tcell_int (ka.cells.at 5 rfl),
    sBuild_of (cs := encS ⟨a.n + b.n, 0, 0, 0, a.mx, a.at_⟩) (lp := [(0, [.int .i64 (a.n + b.n)]), (2, [.int .i64 a.mx]), (3, [.int .i64 a.at_])]) S.tze_item_Sum S.tpl_item_Sum rfl rfl]
  refine sVar (vs := encS ⟨a.n + b.n, 0, 0, 0, a.mx, a.at_⟩) S.tze_item_Sum S.tsz_item_Sum (by decide) rfl rfl (encS_one _) fun b5 w4 hb5 hs4 e4 hk5 => ?_
  have s1 := e1.size
  refine LoopS.intro (fun us w5 => Ext w w5 ∧ Blk w5 b2 (encS a) ∧ Blk w5 b3 (encS b) ∧ Blk w5 b4 (encS zeroS) ∧ ∃ i : Nat, us = [.int .i64 i] ∧ i ≤ 3 ∧
      Blk w5 b5 (encS ⟨a.n + b.n, if 0 < i then wr (a.d0 + b.d0) else 0, if 1 < i then wr (a.d1 + b.d1) else 0, if 2 < i then wr (a.d2 + b.d2) else 0, a.mx, a.at_⟩))
    (fun us _ => match us with | [.int _ a] => (3 - a).toNat | _ => 0) ⟨E3.trans e4, ka.ext e4, kb.ext e4, hk4.ext e4, 0, rfl, by omega, hk5⟩ ?_
  rintro us vs w5 ⟨E5, ka, kb, k4, i, rfl, hi, ks⟩
  unfold S.item_Add_L1
  rw [hd, sBin_lss, sIf_dec]
  refine ⟨fun hlt => ?_, fun hge => ?_⟩
  · refine DrawS.ext ?_
    have E : Ext w5 w5.drew := (Ext.refl w5).drew
    have key : ∀ w6, Ext w w6 → Blk w6 b2 (encS a) → Blk w6 b3 (encS b) → Blk w6 b4 (encS zeroS) →
        Blk w6 b5 (encS ⟨a.n + b.n, if 0 < i + 1 then wr (a.d0 + b.d0) else 0, if 1 < i + 1 then wr (a.d1 + b.d1) else 0, if 2 < i + 1 then wr (a.d2 + b.d2) else 0, a.mx, a.at_⟩) →
        ((Ext w w6 ∧ Blk w6 b2 (encS a) ∧ Blk w6 b3 (encS b) ∧ Blk w6 b4 (encS zeroS) ∧ ∃ j : Nat, [Value.int .i64 ((i : Int) + 1)] = [.int .i64 j] ∧ j ≤ 3 ∧
          Blk w6 b5 (encS ⟨a.n + b.n, if 0 < j then wr (a.d0 + b.d0) else 0, if 1 < j then wr (a.d1 + b.d1) else 0, if 2 < j then wr (a.d2 + b.d2) else 0, a.mx, a.at_⟩)) ∧ (3 - ((i : Int) + 1)).toNat < (3 - (i : Int)).toNat) :=
      fun w6 h1 h2 h3 h4 h5 => ⟨⟨h1, h2, h3, h4, i + 1, by simp, by omega, h5⟩, by omega⟩
    have hw : ∀ w6, w6.heap.size = w5.drew.heap.size → Wr b5 w5.drew w6 → Ext w w6 ∧ Blk w6 b2 (encS a) ∧ Blk w6 b3 (encS b) ∧ Blk w6 b4 (encS zeroS) := fun w6 hs hg =>
      ⟨(E5.trans E).wr hg (by rintro _ ⟨⟩; omega), (ka.ext E).wr hg (by intro e; cases e; omega), (kb.ext E).wr hg (by intro e; cases e; omega), (k4.ext E).wr hg (by intro e; cases e; omega)⟩
    rw [stillS_eq (fun w1 h1 K => sFldA_ptr S.tfl_item_Sum_D) E, stillS_eq (fun w1 h1 K => sIdxA_arr (i := i) S.tar_A3_int S.tsz_int (by omega) (by omega) rfl) E]
    match i, hi, hlt with
    | 0, _, _ =>
      rw [stillS_cell S.tcell_int (ka.cells.at 1 rfl) E, stillS_eq (fun w1 h1 K => sFldA_ptr S.tfl_item_Sum_D) E, stillS_eq (fun w1 h1 K => sIdxA_arr (i := 0) S.tar_A3_int S.tsz_int (by omega) (by omega) rfl) E, stillS_cell S.tcell_int (kb.cells.at 1 rfl) E,
        stillS_eq (fun w1 h1 K => sBin_addw _ _) E, stillS_eq (fun w1 h1 K => sFldA_ptr S.tfl_item_Sum_D) E, stillS_eq (fun w1 h1 K => sIdxA_arr (i := 0) S.tar_A3_int S.tsz_int (by omega) (by omega) rfl) E]
      refine sStore_blk (vs := [.int .i64 (wr (a.d0 + b.d0))]) S.tsz_int (by decide) (ks.ext E) rfl rfl (by simp [encS]) (by simp; rfl) fun w6 hs6 hg6 hk6 => ?_
      rw [sBin_add _ _ ⟨by omega, by omega⟩]
      obtain ⟨q1, q2, q3, q4⟩ := hw w6 hs6 hg6
      exact key w6 q1 q2 q3 q4 hk6
    | 1, _, _ =>
      rw [stillS_cell S.tcell_int (ka.cells.at 2 rfl) E, stillS_eq (fun w1 h1 K => sFldA_ptr S.tfl_item_Sum_D) E, stillS_eq (fun w1 h1 K => sIdxA_arr (i := 1) S.tar_A3_int S.tsz_int (by omega) (by omega) rfl) E, stillS_cell S.tcell_int (kb.cells.at 2 rfl) E,
        stillS_eq (fun w1 h1 K => sBin_addw _ _) E, stillS_eq (fun w1 h1 K => sFldA_ptr S.tfl_item_Sum_D) E, stillS_eq (fun w1 h1 K => sIdxA_arr (i := 1) S.tar_A3_int S.tsz_int (by omega) (by omega) rfl) E]
      refine sStore_blk (vs := [.int .i64 (wr (a.d1 + b.d1))]) S.tsz_int (by decide) (ks.ext E) rfl rfl (by simp [encS]) (by simp; rfl) fun w6 hs6 hg6 hk6 => ?_
      rw [sBin_add _ _ ⟨by omega, by omega⟩]
      obtain ⟨q1, q2, q3, q4⟩ := hw w6 hs6 hg6
      exact key w6 q1 q2 q3 q4 hk6
    | 2, _, _ =>
      rw [stillS_cell S.tcell_int (ka.cells.at 3 rfl) E, stillS_eq (fun w1 h1 K => sFldA_ptr S.tfl_item_Sum_D) E, stillS_eq (fun w1 h1 K => sIdxA_arr (i := 2) S.tar_A3_int S.tsz_int (by omega) (by omega) rfl) E, stillS_cell S.tcell_int (kb.cells.at 3 rfl) E,
        stillS_eq (fun w1 h1 K => sBin_addw _ _) E, stillS_eq (fun w1 h1 K => sFldA_ptr S.tfl_item_Sum_D) E, stillS_eq (fun w1 h1 K => sIdxA_arr (i := 2) S.tar_A3_int S.tsz_int (by omega) (by omega) rfl) E]
      refine sStore_blk (vs := [.int .i64 (wr (a.d2 + b.d2))]) S.tsz_int (by decide) (ks.ext E) rfl rfl (by simp [encS]) (by simp; rfl) fun w6 hs6 hg6 hk6 => ?_
      rw [sBin_add _ _ ⟨by omega, by omega⟩]
      obtain ⟨q1, q2, q3, q4⟩ := hw w6 hs6 hg6
      exact key w6 q1 q2 q3 q4 hk6
  · obtain rfl : i = 3 := by omega
    refine JoinS.intro (fun us w' => w' = w5 ∧ ∃ t : Bool, us = [.bool t] ∧ (t = true ↔ Hi a b)) ?_ ?_
    · rw [sFldA_ptr S.tfl_item_Sum_N, sLoad_cell S.tcell_int (kb.cells.at 0 rfl), sBin_gtr, sIf_dec]
      refine ⟨fun h1 => ?_, fun h1 => ⟨rfl, false, rfl, by simp; omega⟩⟩
      rw [sFldA_ptr S.tfl_item_Sum_N, sLoad_cell S.tcell_int (ka.cells.at 0 rfl), sBin_eql, sIf_dec]
      refine ⟨fun h2 => ⟨rfl, true, rfl, by simp [Hi, h1, h2]⟩, fun h2 => ?_⟩
      rw [sFldA_ptr S.tfl_item_Sum_Max, sLoad_cell S.tcell_int (kb.cells.at 4 rfl), sFldA_ptr S.tfl_item_Sum_Max, sLoad_cell S.tcell_int (ka.cells.at 4 rfl), sBin_gtr]
      exact ⟨rfl, _, rfl, by simp [Hi, h1, h2]⟩
    rintro us vs w5 ⟨rfl, t, rfl, ht⟩
    unfold S.item_Add_J2
    have hfin : ∀ (s : Su) w6, Ext w w6 → Blk w6 b4 (encS zeroS) → Blk w6 b5 (encS s) → addS a b = s →
        sLoad Tryd.prog S.T.item_Sum (.pointer (some ⟨b5, 0, none⟩)) w6 fun x w1 => sStore Tryd.prog S.T.item_Sum (.pointer (some ⟨b4, 0, none⟩)) x w1 fun w2 =>
          sLoad Tryd.prog S.T.item_Sum (.pointer (some ⟨b4, 0, none⟩)) w2 fun v w' => w' = w2 ∧ (Ext w w2 ∧ v = .agg (encS (addS a b)).toArray) := by
      intro s w6 E6 k4 k5 hs
      rw [sLoad_agg (cs := encS s) S.tagg_item_Sum k5.cells rfl]
      refine sStore_blk S.tsz_item_Sum (by decide) k4 (vs := encS s) rfl rfl (by simp [encS]) (encS_one _) fun w7 hs7 hg7 hk7 => ?_
      rw [sLoad_agg (cs := encS s) S.tagg_item_Sum hk7.cells rfl, hs]
      exact ⟨rfl, E6.wr hg7 (by rintro _ ⟨⟩; omega), rfl⟩
    rw [hd, sIf_bool]
    refine ⟨fun h1 => ?_, fun h0 => ?_⟩
    · have hH := ht.1 h1
      have C0 : Wr b5 w5 w5.drew := grown_drew _ _
      have n2 : some b2 ≠ some b5 := by intro e; cases e; omega
      have n3 : some b3 ≠ some b5 := by intro e; cases e; omega
      have n4 : some b4 ≠ some b5 := by intro e; cases e; omega
      refine DrawS.intro (fun w1 => Wr b5 w5 w1) C0 ?_
      rw [stillC_eq (fun w1 h1 K => sFldA_ptr S.tfl_item_Sum_Max) C0, stillC_eq (fun w1 h1 K => sLoad_cell S.tcell_int ((kb.cells.wr h1 n3).at 4 rfl)) C0,
        stillC_eq (fun w1 h1 K => sFldA_ptr S.tfl_item_Sum_N) C0, stillC_eq (fun w1 h1 K => sLoad_cell S.tcell_int ((ka.cells.wr h1 n2).at 0 rfl)) C0,
        stillC_eq (fun w1 h1 K => sFldA_ptr S.tfl_item_Sum_At) C0, stillC_eq (fun w1 h1 K => sLoad_cell S.tcell_int ((kb.cells.wr h1 n3).at 5 rfl)) C0,
        stillC_eq (fun w1 h1 K => sBin_add _ _ h.at_) C0, stillC_eq (fun w1 h1 K => sFldA_ptr S.tfl_item_Sum_Max) C0]
      refine sStore_blk (vs := [.int .i64 b.mx]) S.tsz_int (by decide) (ks.ext (Ext.refl w5).drew) rfl rfl (by simp [encS]) (by simp; rfl) fun w6 hs6 hg6 hk6 => ?_
      have C6 : Wr b5 w5 w6 := grown_trans C0 hg6
      refine ⟨C6, ?_⟩
      rw [stillC_eq (fun w1 h1 K => sFldA_ptr S.tfl_item_Sum_At) C6]
      refine sStore_blk (vs := [.int .i64 (a.n + b.at_)]) S.tsz_int (by decide) hk6 rfl rfl (by simp [encS, splice]) (by simp; rfl) fun w7 hs7 hg7 hk7 => ?_
      have C7 : Wr b5 w5 w7 := grown_trans C6 hg7
      refine hfin (addS a b) w7 (E5.wr C7 (by rintro _ ⟨⟩; omega)) (k4.wr C7 n4) ?_ rfl
      have : addS a b = ⟨a.n + b.n, wr (a.d0 + b.d0), wr (a.d1 + b.d1), wr (a.d2 + b.d2), b.mx, a.n + b.at_⟩ := by unfold addS; rw [if_pos hH, if_pos hH]
      rw [this]
      exact hk7
    · have hH : ¬ Hi a b := fun h' => by rw [ht.2 h'] at h0; cases h0
      refine hfin _ w5 E5 k4 ks ?_
      unfold addS; rw [if_neg hH, if_neg hH]; rfl

theorem all_spec {w : World} {l : Value} {xs : List It} (hl : Sl w l 7 encT xs) (hn : xs.length ≤ 1000000) : sCall Tryd.prog S.item_All.n [l] w fun u w' => Ext w w' ∧ u = .agg (encS (allS xs)).toArray := by
  refine S.item_All.call ?_
  unfold S.item_All
  refine sAlloc_new S.tze_item_Sum fun b2 w1 hb2 hs1 e1 hk2 => ?_
  refine sAlloc_new S.tze_item_Sum fun b3 w2 hb3 hs2 e2 hk3 => ?_
  have E2 := e1.trans e2
  have s1 := e1.size
  rw [sLen_sl S.tel_L_item_Item (hl.ext E2)]
  refine LoopS.intro (fun us w3 => Ext w w3 ∧ Blk w3 b2 (encS zeroS) ∧ ∃ i : Nat, us = [.int .i64 i] ∧ i ≤ xs.length ∧ Blk w3 b3 (encS (allS (xs.take i))))
    (fun us _ => match us with | [.int _ a] => (xs.length - a).toNat | _ => 0) ⟨E2, hk2.ext e2, 0, rfl, by omega, hk3⟩ ?_
  rintro us vs w3 ⟨E3, k2, i, rfl, hi, k3⟩
  unfold S.item_All_L1
  rw [hd, sBin_lss, sIf_dec]
  refine ⟨fun hlt => ?_, fun hge => ?_⟩
  · obtain ⟨x, hxi⟩ : ∃ x, xs[i]? = some x := ⟨_, List.getElem?_eq_getElem (by omega)⟩
    obtain ⟨b, o, hel, hc⟩ := (hl.ext E3).el hxi
    rw [sIdxA_sl S.tel_L_item_Item S.tsz_item_Item (by omega) (hl.ext E3) hxi rfl, hel, sLoad_agg S.tagg_item_Item hc rfl]
    refine sVar S.tze_item_Item S.tsz_item_Item (by decide) rfl rfl (encT_ok.one x) fun b4 w4 hb4 hs4 e4 hk4 => ?_
    refine DrawS.ext ?_
    have E : Ext w4 w4.drew := (Ext.refl w4).drew
    rw [stillS_agg (cs := encS (allS (xs.take i))) S.tagg_item_Sum (k3.ext e4).cells rfl E, stillS_agg (cs := encT x) S.tagg_item_Item hk4.cells rfl E]
    refine (of_spec x).mono ?_
    rintro u w5 ⟨e5, rfl⟩
    have F5 := E.trans e5
    refine ⟨F5, ?_⟩
    have hlt' : (xs.take i).length = i := by rw [List.length_take]; omega
    refine (add_spec (AddB.one (by omega) x)).mono ?_
    rintro u w6 ⟨e6, rfl⟩
    have G := (e4.trans F5).trans e6
    refine sStore_blk S.tsz_item_Sum (by decide) (k3.ext G) (vs := encS (addS (allS (xs.take i)) (ofI x))) rfl rfl (by simp [encS]) (encS_one _) fun w7 hs7 hg7 hk7 => ?_
    rw [sBin_add _ _ ⟨by omega, by omega⟩]
    have hG := (E3.trans G).size
    refine ⟨⟨(E3.trans G).wr hg7 (by rintro _ ⟨⟩; omega), (k2.ext G).wr hg7 (by intro e; cases e; omega), i + 1, by simp, by omega, ?_⟩, by simp only []; omega⟩
    rw [take_succ_of hxi, allS_snoc]
    exact hk7
  · obtain rfl : i = xs.length := by omega
    rw [List.take_length] at k3
    rw [sLoad_agg (cs := encS (allS xs)) S.tagg_item_Sum k3.cells rfl]
    refine sStore_blk S.tsz_item_Sum (by decide) k2 (vs := encS (allS xs)) rfl rfl (by simp [encS]) (encS_one _) fun w7 hs7 hg7 hk7 => ?_
    rw [sLoad_agg (cs := encS (allS xs)) S.tagg_item_Sum hk7.cells rfl]
    exact ⟨rfl, E3.wr hg7 (by rintro _ ⟨⟩; omega), rfl⟩
end Go.Proofs.YtpjmmhbdondknaaDoor
namespace Go.Proofs.YtpjmmhbdondknaaDoor
open Go Go.Lift Go.RowKit

/-- A node's value: a leaf or not; its block. -/
abbrev Nv := Bool × Nat
abbrev lfv (b : Nat) : Value := .iface S.T.P_tree_leaf (.pointer (some ⟨b, 0, none⟩))
abbrev inv (b : Nat) : Value := .iface S.T.P_tree_inner (.pointer (some ⟨b, 0, none⟩))
def ndv (k : Nv) : Value := bif k.1 then lfv k.2 else inv k.2
theorem ndv_t (b : Nat) : ndv (true, b) = lfv b := rfl
theorem ndv_f (b : Nat) : ndv (false, b) = inv b := rfl
def encK (k : Nv) : List Value := [ndv k]
theorem encK_ok : Enc encK 1 := ⟨fun _ => rfl, fun x u hu => by obtain ⟨t, b⟩ := x; simp [encK] at hu; subst hu; cases t <;> rfl⟩
theorem ndv_or (k : Nv) : ndv k = .nilIface ∨ ∃ A x, ndv k = .iface A x := by obtain ⟨t, b⟩ := k; cases t <;> exact .inr ⟨_, _, rfl⟩
theorem ndv_nn (k : Nv) : isNilI (ndv k) = false := by obtain ⟨t, b⟩ := k; cases t <;> rfl

abbrev Kd := Nv × Nat × List It
/-- A node of a height (one less), with so many items or nodes, and all items below it. -/
def Nd (w : World) : Nat → Nv → Nat → List It → Prop
  | 0, k, c, xs => k.1 = true ∧ c = xs.length ∧ 1 ≤ c ∧ c ≤ 8 ∧ ∃ s : SV, Cells w k.2 0 (sv s :: encS (allS xs)) ∧ Sl w (sv s) 7 encT xs
  | h + 1, k, c, xs => k.1 = false ∧ 2 ≤ c ∧ c ≤ 8 ∧ ∃ (s : SV) (ks : List Kd), Cells w k.2 0 (sv s :: .int .i64 ((h : Int) + 2) :: encS (allS xs)) ∧ Sl w (sv s) 1 encK (ks.map (·.1)) ∧ ks.length = c ∧ xs = ks.flatMap (·.2.2) ∧
      ∀ t ∈ ks, 4 ≤ t.2.1 ∧ Nd w h t.1 t.2.1 t.2.2
theorem Nd.ext {w w' : World} (e : Ext w w') : ∀ {h : Nat} {k : Nv} {c : Nat} {xs : List It}, Nd w h k c xs → Nd w' h k c xs
  | 0, _, _, _, h => by
    obtain ⟨h1, h2, h3, h4, s, h5, h6⟩ := h
    exact ⟨h1, h2, h3, h4, s, h5.ext e, h6.ext e⟩
  | n + 1, _, _, _, h => by
    obtain ⟨h1, h3, h4, s, ks, h5, h6, h7, h8, h9⟩ := h
    exact ⟨h1, h3, h4, s, ks, h5.ext e, h6.ext e, h7, h8, fun t ht => ⟨(h9 t ht).1, Nd.ext e (h9 t ht).2⟩⟩
theorem flat_ge {α β : Type} (f : α → List β) (m : Nat) : ∀ (ks : List α), (∀ t ∈ ks, m ≤ (f t).length) → ks.length * m ≤ (ks.flatMap f).length
  | [], _ => by simp
  | k :: ks, h => by
    have := flat_ge f m ks fun t ht => h t (List.mem_cons_of_mem _ ht)
    have := h k (List.mem_cons_self ..)
    simp only [List.length_cons, List.flatMap_cons, List.length_append, Nat.add_mul, Nat.one_mul]
    omega
theorem Nd.many {w : World} : ∀ {h : Nat} {k : Nv} {c : Nat} {xs : List It}, Nd w h k c xs → c * 4 ^ h ≤ xs.length
  | 0, _, _, _, h => by
    obtain ⟨h1, rfl, h3, h4, _⟩ := h
    simp
  | n + 1, _, _, _, h => by
    obtain ⟨h1, h3, h4, s, ks, h5, h6, rfl, rfl, h9⟩ := h
    have hk : ∀ t ∈ ks, 4 ^ (n + 1) ≤ t.2.2.length := fun t ht => by
      have h1 := Nd.many (h9 t ht).2
      have h2 := Nat.mul_le_mul_right (4 ^ n) (h9 t ht).1
      rw [Nat.pow_succ]; omega
    exact flat_ge (fun t : Kd => t.2.2) _ ks hk
theorem Nd.le8 {w : World} {h : Nat} {k : Nv} {c : Nat} {xs : List It} (hd : Nd w h k c xs) : 1 ≤ c ∧ c ≤ 8 := by
  cases h with
  | zero => exact ⟨hd.2.2.1, hd.2.2.2.1⟩
  | succ h => have := hd.2.1; exact ⟨by omega, hd.2.2.1⟩
theorem Nd.high {w : World} {h : Nat} {k : Nv} {c : Nat} {xs : List It} (hd : Nd w h k c xs) (hn : xs.length ≤ 1000000) : h ≤ 10 := by
  have h1 := hd.many
  have h2 := hd.le8
  have h3 : 4 ^ h ≤ 1000000 := by have := Nat.mul_le_mul_right (4 ^ h) h2.1; omega
  refine Nat.le_of_not_lt fun hlt => ?_
  have := Nat.pow_le_pow_right (n := 4) (by decide) (show 11 ≤ h from hlt)
  have : (4 : Nat) ^ 11 = 4194304 := by decide
  omega
/-- Not too many items. -/
structure Gd (xs : List It) : Prop where
  n : xs.length ≤ 1000000
theorem Gd.sub {xs ys : List It} (h : Gd xs) (_hm : ∀ x ∈ ys, x ∈ xs) (hl : ys.length ≤ xs.length) : Gd ys := ⟨Nat.le_trans hl h.n⟩
theorem Gd.take {xs : List It} (h : Gd xs) (n : Nat) : Gd (xs.take n) := h.sub (fun x hx => List.mem_of_mem_take hx) (by rw [List.length_take]; omega)
theorem Gd.drop {xs : List It} (h : Gd xs) (n : Nat) : Gd (xs.drop n) := h.sub (fun x hx => List.mem_of_mem_drop hx) (by rw [List.length_drop]; omega)
theorem flat_mem_len {ks : List Kd} {t : Kd} (ht : t ∈ ks) : t.2.2.length ≤ (ks.flatMap (·.2.2)).length := by
  induction ks with
  | nil => cases ht
  | cons k ks ih =>
    rw [List.flatMap_cons, List.length_append]
    rcases List.mem_cons.1 ht with rfl | ht
    · omega
    · have := ih ht; omega
theorem Gd.kid {ks : List Kd} {t : Kd} (h : Gd (ks.flatMap (·.2.2))) (ht : t ∈ ks) : Gd t.2.2 := h.sub (fun _ hx => List.mem_flatMap.2 ⟨t, ht, hx⟩) (flat_mem_len ht)

theorem sl_cap {α : Type} {w : World} {v : Value} {k : Nat} {enc : α → List Value} {xs : List α} (h : Sl w v k enc xs) : xs.length ≤ capV v := by
  obtain ⟨a, cap, rfl, h1, _⟩ := h; exact h1

theorem sumOf_spec {w : World} {h : Nat} {k : Nv} {c : Nat} {xs : List It} (hd : Nd w h k c xs) : sCall Tryd.prog S.tree_sumOf.n [ndv k] w fun u w' => Ext w w' ∧ u = .agg (encS (allS xs)).toArray := by
  refine S.tree_sumOf.call ?_
  unfold S.tree_sumOf
  refine sAlloc_new S.tze_item_Sum fun b w1 hb hs1 e1 hk => ?_
  obtain ⟨t, bk⟩ := k
  cases h with
  | zero =>
    obtain ⟨rfl, _, _, _, s, hc, hsl⟩ := hd.ext e1
    rw [ndv_t, sAssert_yes S.tcq_P_tree_leaf, sExtract_1, sExtract_0, sIf_true, sNil_ptr, sFldA_ptr S.tfl_tree_leaf_sum, sLoad_agg (cs := encS (allS xs)) S.tagg_item_Sum (hc.sub 1 6) rfl]
    refine sStore_blk S.tsz_item_Sum (by decide) hk (vs := encS (allS xs)) rfl rfl (by simp) (encS_one _) fun w7 hs7 hg7 hk7 => ?_
    rw [sLoad_agg (cs := encS (allS xs)) S.tagg_item_Sum hk7.cells rfl]
    exact ⟨rfl, e1.wr hg7 (by rintro _ ⟨⟩; omega), rfl⟩
  | succ h =>
    obtain ⟨rfl, _, _, s, ks, hc, _⟩ := hd.ext e1
    obtain ⟨z, hz⟩ := sAssert_no (P := Tryd.prog) (T := S.T.tree_node) (v := .pointer (some ⟨bk, 0, none⟩)) (B := S.T.P_tree_inner) S.tcq_P_tree_leaf (by decide)
    rw [ndv_f, hz, sExtract_1, sExtract_0, sIf_false, sAssert_yes S.tcq_P_tree_inner, sExtract_1, sExtract_0, sIf_true, sNil_ptr, sFldA_ptr S.tfl_tree_inner_sum, sLoad_agg (cs := encS (allS xs)) S.tagg_item_Sum (hc.sub 2 6) rfl]
    refine sStore_blk S.tsz_item_Sum (by decide) hk (vs := encS (allS xs)) rfl rfl (by simp) (encS_one _) fun w7 hs7 hg7 hk7 => ?_
    rw [sLoad_agg (cs := encS (allS xs)) S.tagg_item_Sum hk7.cells rfl]
    exact ⟨rfl, e1.wr hg7 (by rintro _ ⟨⟩; omega), rfl⟩
theorem sumOf_nil {w : World} : sCall Tryd.prog S.tree_sumOf.n [.nilIface] w fun u w' => Ext w w' ∧ u = .agg (encS zeroS).toArray := by
  refine S.tree_sumOf.call ?_
  unfold S.tree_sumOf
  refine sAlloc_new S.tze_item_Sum fun b w1 hb hs1 e1 hk => ?_
  obtain ⟨z, hz⟩ := sAssert_nil (P := Tryd.prog) (T := S.T.tree_node) S.tcq_P_tree_leaf
  obtain ⟨z2, hz2⟩ := sAssert_nil (P := Tryd.prog) (T := S.T.tree_node) S.tcq_P_tree_inner
  rw [hz, sExtract_1, sExtract_0, sIf_false, hz2, sExtract_1, sExtract_0, sIf_false, sBuild_of (cs := encS zeroS) (lp := []) S.tze_item_Sum S.tpl_item_Sum rfl rfl]
  refine sStore_blk S.tsz_item_Sum (by decide) hk (vs := encS zeroS) rfl rfl (by simp) (encS_one _) fun w7 hs7 hg7 hk7 => ?_
  rw [sLoad_agg (cs := encS zeroS) S.tagg_item_Sum hk7.cells rfl]
  exact ⟨rfl, e1.wr hg7 (by rintro _ ⟨⟩; omega), rfl⟩

theorem heightOf_spec {w : World} {h : Nat} {k : Nv} {c : Nat} {xs : List It} (hd : Nd w h k c xs) : sCall Tryd.prog S.tree_heightOf.n [ndv k] w fun u w' => w' = w ∧ u = .int .i64 ((h : Int) + 1) := by
  refine S.tree_heightOf.call ?_
  unfold S.tree_heightOf
  obtain ⟨t, bk⟩ := k
  cases h with
  | zero =>
    obtain ⟨rfl, _⟩ := hd
    rw [ndv_t, sAssert_yes S.tcq_P_tree_leaf, sExtract_1, sExtract_0, sIf_true]
    exact ⟨rfl, rfl⟩
  | succ h =>
    obtain ⟨rfl, _, _, s, ks, hc, _⟩ := hd
    obtain ⟨z, hz⟩ := sAssert_no (P := Tryd.prog) (T := S.T.tree_node) (v := .pointer (some ⟨bk, 0, none⟩)) (B := S.T.P_tree_inner) S.tcq_P_tree_leaf (by decide)
    rw [ndv_f, hz, sExtract_1, sExtract_0, sIf_false, sAssert_yes S.tcq_P_tree_inner, sExtract_1, sExtract_0, sIf_true, sNil_ptr, sFldA_ptr S.tfl_tree_inner_height, sLoad_cell S.tcell_int (hc.at 1 rfl)]
    exact ⟨rfl, rfl⟩
theorem heightOf_nil {w : World} : sCall Tryd.prog S.tree_heightOf.n [.nilIface] w fun u w' => w' = w ∧ u = .int .i64 0 := by
  refine S.tree_heightOf.call ?_
  unfold S.tree_heightOf
  obtain ⟨z, hz⟩ := sAssert_nil (P := Tryd.prog) (T := S.T.tree_node) S.tcq_P_tree_leaf
  obtain ⟨z2, hz2⟩ := sAssert_nil (P := Tryd.prog) (T := S.T.tree_node) S.tcq_P_tree_inner
  rw [hz, sExtract_1, sExtract_0, sIf_false, hz2, sExtract_1, sExtract_0, sIf_false]
  exact ⟨rfl, rfl⟩

theorem leafOf_spec {w : World} {l : Value} {xs : List It} (hl : Sl w l 7 encT xs) (hg : Gd xs) (h1 : 1 ≤ xs.length) (h8 : xs.length ≤ 8) :
    sCall Tryd.prog S.tree_leafOf.n [l] w fun u w' => Ext w w' ∧ ∃ b, u = .pointer (some ⟨b, 0, none⟩) ∧ Nd w' 0 (true, b) xs.length xs := by
  refine S.tree_leafOf.call ?_
  unfold S.tree_leafOf
  refine (all_spec hl hg.n).mono ?_
  rintro u w1 ⟨e1, rfl⟩
  obtain ⟨s, rfl⟩ := hl.sv
  rw [sBuild_of (cs := sv s :: encS (allS xs)) (lp := [(0, [sv s]), (1, encS (allS xs))]) S.tze_tree_leaf S.tpl_tree_leaf rfl rfl]
  refine sBox_new (cs := sv s :: encS (allS xs)) rfl fun b w2 hb hs2 e2 hk => ?_
  exact ⟨e1.trans e2, b, rfl, rfl, rfl, h1, h8, s, hk.cells, hl.ext (e1.trans e2)⟩

theorem kids_at {ks : List Kd} {i : Nat} {t : Kd} (h : ks[i]? = some t) : (ks.map (·.1))[i]? = some t.1 := by rw [List.getElem?_map, h]; rfl
theorem innerOf_spec {w : World} {l : Value} {ks : List Kd} {h : Nat} (hl : Sl w l 1 encK (ks.map (·.1))) (hk : ∀ t ∈ ks, 4 ≤ t.2.1 ∧ Nd w h t.1 t.2.1 t.2.2) (hg : Gd (ks.flatMap (·.2.2))) (h1 : 2 ≤ ks.length) (h8 : ks.length ≤ 8) :
    sCall Tryd.prog S.tree_innerOf.n [l] w fun u w' => Ext w w' ∧ ∃ b, u = .pointer (some ⟨b, 0, none⟩) ∧ Nd w' (h + 1) (false, b) ks.length (ks.flatMap (·.2.2)) := by
  refine S.tree_innerOf.call ?_
  unfold S.tree_innerOf
  obtain ⟨t0, ht0⟩ : ∃ t, ks[0]? = some t := ⟨_, List.getElem?_eq_getElem (by omega)⟩
  have hk0 := hk t0 (List.mem_of_getElem? ht0)
  have hhi := hk0.2.high (hg.kid (List.mem_of_getElem? ht0)).n
  obtain ⟨b0, o0, hel0, hc0⟩ := hl.el (kids_at ht0)
  rw [sIdxA_sl (i := 0) (z := 0) S.tel_L_tree_node S.tsz_tree_node (by omega) hl (kids_at ht0) rfl, hel0, sLoad_cell S.tcell_tree_node (hc0.fst rfl)]
  refine (heightOf_spec hk0.2).mono ?_
  rintro u w1 ⟨rfl, rfl⟩
  obtain ⟨s, rfl⟩ := hl.sv
  have h2 : (h : Int) + 1 + 1 = (h : Int) + 2 := by omega
  rw [sBin_add _ _ ⟨by omega, by omega⟩, h2, sBuild_of (cs := sv s :: .int .i64 ((h : Int) + 2) :: encS zeroS) (lp := [(0, [sv s]), (1, [.int .i64 ((h : Int) + 2)])]) S.tze_tree_inner S.tpl_tree_inner rfl rfl]
  refine sBox_new (cs := sv s :: .int .i64 ((h : Int) + 2) :: encS zeroS) rfl fun b w2 hb hs2 e2 hk2 => ?_
  rw [sLen_sl S.tel_L_tree_node (hl.ext e2), List.length_map]
  refine LoopS.intro (fun us w3 => Ext w1 w3 ∧ ∃ i : Nat, us = [.int .i64 i] ∧ i ≤ ks.length ∧ Blk w3 b (sv s :: .int .i64 ((h : Int) + 2) :: encS (allS ((ks.take i).flatMap (·.2.2)))))
    (fun us _ => match us with | [.int _ a] => (ks.length - a).toNat | _ => 0) ⟨e2, 0, rfl, by omega, hk2⟩ ?_
  rintro us vs w3 ⟨e3, i, rfl, hi, k3⟩
  unfold S.tree_innerOf_L1
  rw [Go.Lift.hd, sBin_lss, sIf_dec]
  refine ⟨fun hlt => ?_, fun hge => ?_⟩
  · obtain ⟨t, ht⟩ : ∃ t, ks[i]? = some t := ⟨_, List.getElem?_eq_getElem (by omega)⟩
    have hm := List.mem_of_getElem? ht
    have hkt := hk t hm
    obtain ⟨b1, o1, hel1, hc1⟩ := (hl.ext e3).el (kids_at ht)
    rw [sIdxA_sl S.tel_L_tree_node S.tsz_tree_node (by omega) (hl.ext e3) (kids_at ht) rfl, hel1, sLoad_cell S.tcell_tree_node (hc1.fst rfl)]
    refine DrawS.ext ?_
    have E : Ext w3 w3.drew := (Ext.refl w3).drew
    rw [sNil_ptr, stillS_eq (fun w1 h1 K => sFldA_ptr S.tfl_tree_inner_sum) E, stillS_agg (cs := encS (allS ((ks.take i).flatMap (·.2.2)))) S.tagg_item_Sum (k3.cells.sub 2 6) rfl E]
    refine (sumOf_spec ((hkt.2.ext e3).ext E)).mono ?_
    rintro u w5 ⟨e5, rfl⟩
    have F5 := E.trans e5
    refine ⟨F5, ?_⟩
    have hgt := hg.kid hm
    have hsub : Gd ((ks.take i).flatMap (·.2.2)) := hg.sub (fun x hx => by
        obtain ⟨q, hq, hx⟩ := List.mem_flatMap.1 hx
        exact List.mem_flatMap.2 ⟨q, List.mem_of_mem_take hq, hx⟩) (by
        have := congrArg (fun l : List Kd => (l.flatMap (·.2.2)).length) (List.take_append_drop i ks)
        simp only [List.flatMap_append, List.length_append] at this
        omega)
    refine (add_spec (AddB.all (by have := hsub.n; omega) (by have := hgt.n; omega))).mono ?_
    rintro u w6 ⟨e6, rfl⟩
    have G := F5.trans e6
    refine ⟨G, ?_⟩
    rw [sNil_ptr, stillS_eq (fun w1 h1 K => sFldA_ptr S.tfl_tree_inner_sum) G]
    refine sStore_blk S.tsz_item_Sum (by decide) (k3.ext G) (vs := encS (addS (allS ((ks.take i).flatMap (·.2.2))) (allS t.2.2))) rfl rfl (by simp [encS]) (encS_one _) fun w7 hs7 hg7 hk7 => ?_
    rw [sBin_add _ _ ⟨by omega, by omega⟩]
    have hG := (e3.trans G).size
    refine ⟨⟨(e3.trans G).wr hg7 (by rintro _ ⟨⟩; omega), i + 1, by simp, by omega, ?_⟩, by simp only []; omega⟩
    rw [take_succ_of ht, List.flatMap_append, List.flatMap_singleton, allS_append]
    exact hk7
  · obtain rfl : i = ks.length := by omega
    rw [List.take_length] at k3
    exact ⟨e3, b, rfl, rfl, h1, h8, s, ks, k3.cells, hl.ext e3, rfl, rfl, fun t ht => ⟨(hk t ht).1, (hk t ht).2.ext e3⟩⟩
end Go.Proofs.YtpjmmhbdondknaaDoor
namespace Go.Proofs.YtpjmmhbdondknaaDoor
open Go Go.Lift Go.RowKit

theorem put_spec {w : World} {a b : Value} {xs ys : List Nv} (ha : Sl w a 1 encK xs) (hb : Sl w b 1 encK ys) (h : xs.length + ys.length ≤ 1000) :
    sCall Tryd.prog S.tree_put.n [a, b] w fun u w' => Ext w w' ∧ Sl w' u 1 encK (xs ++ ys) := by
  refine S.tree_put.call ?_
  unfold S.tree_put
  have hmx : maxLen = 9223372036854775807 := rfl
  rw [sLen_sl S.tel_L_tree_node ha, sLen_sl S.tel_L_tree_node hb, sBin_add _ _ ⟨by omega, by omega⟩]
  refine sMake_own (enc := encK) (c := xs.length + ys.length) S.tel_L_tree_node S.tsz_tree_node S.tze_tree_node (by omega) (by rw [S.tby_tree_node]; omega) (by omega) fun v w1 hv e1 => ?_
  refine sAppend_own S.tel_L_tree_node S.tsz_tree_node (by decide) S.tze_tree_node rfl encK_ok hv e1.size (ha.ext e1) (by simp; omega) (by rw [S.tby_tree_node]; simp; omega) fun v2 w2 hv2 hg2 => ?_
  have e2 : Ext w w2 := e1.wr hg2 fun g hg => (hv.lt g hg).1
  refine sAppend_own S.tel_L_tree_node S.tsz_tree_node (by decide) S.tze_tree_node rfl encK_ok hv2 e2.size (hb.ext e2) (by simp; omega) (by rw [S.tby_tree_node]; simp; omega) fun v3 w3 hv3 hg3 => ?_
  have e3 : Ext w w3 := e2.wr hg3 fun g hg => (hv2.lt g hg).1
  exact ⟨e3, by simpa using hv3.sl encK_ok⟩

/-- One or two nodes; one has so many at least, two have four each at least. -/
def Two (w : World) (h : Nat) (u : Value) (m : Nat) (xs : List It) : Prop :=
  ∃ ks : List Kd, Sl w u 1 encK (ks.map (·.1)) ∧ ks.flatMap (·.2.2) = xs ∧ (∀ t ∈ ks, Nd w h t.1 t.2.1 t.2.2) ∧ ((∃ t, ks = [t] ∧ m ≤ t.2.1) ∨ ∃ t t' : Kd, ks = [t, t'] ∧ 4 ≤ t.2.1 ∧ 4 ≤ t'.2.1)

theorem spread_spec {w : World} {l : Value} {xs : List It} (hl : Sl w l 7 encT xs) (hg : Gd xs) (h1 : 1 ≤ xs.length) (h16 : xs.length ≤ 16) :
    sCall Tryd.prog S.tree_spread.n [l] w fun u w' => Ext w w' ∧ Two w' 0 u xs.length xs := by
  refine S.tree_spread.call ?_
  unfold S.tree_spread
  rw [sLen_sl S.tel_L_item_Item hl, sBin_leq, sIf_dec]
  refine ⟨fun h8 => ?_, fun h8 => ?_⟩
  · refine (leafOf_spec hl hg h1 (by omega)).mono ?_
    rintro u w1 ⟨e1, b, rfl, hd⟩
    rw [sIface_mk S.tcq_P_tree_leaf]
    refine sBuildSlice_own (enc := encK) (xs := [(true, b)]) (lp := [(0, [lfv b])]) S.tel_L_tree_node S.tsz_tree_node rfl S.tze_tree_node (by decide) (by decide) encK_ok rfl rfl fun v w2 hv ho he hs => ?_
    exact ⟨e1.trans he, [((true, b), xs.length, xs)], ho.sl encK_ok, by simp, fun t ht => by simp at ht; subst ht; exact hd.ext he, .inl ⟨_, rfl, Nat.le_refl _⟩⟩
  · have hcap := sl_cap hl
    rw [sLen_sl S.tel_L_item_Item hl, sBin_quo _ _ (by omega) (by omega) (by omega)]
    refine DrawS.ext ?_
    have E : Ext w w.drew := (Ext.refl w).drew
    have hm : ((xs.length : Int) / 2) = ((xs.length / 2 : Nat) : Int) := by omega
    rw [stillS_eq (fun w1 h1 K => sSlice_hm S.tel_L_item_Item S.tsz_item_Item (by omega) (hl.ext h1) hm hm (by omega) (by omega)) E,
      stillS_eq (fun w1 h1 K => sSlice_l S.tel_L_item_Item S.tsz_item_Item (by omega) (hl.ext h1) hm (by omega)) E]
    have p1 : Sl w (slV l 7 0 (xs.length / 2) (xs.length / 2)) 7 encT (xs.take (xs.length / 2)) := by
      simpa using hl.part (lo := 0) (hi := xs.length / 2) (mx := xs.length / 2) (by omega) (by omega) (by omega) (by omega)
    have p2 : Sl w (slV l 7 (xs.length / 2) xs.length (capV l)) 7 encT (xs.drop (xs.length / 2)) := by
      simpa using hl.part (lo := xs.length / 2) (hi := xs.length) (mx := capV l) (by omega) (by omega) (by omega) (by omega)
    have l1 : (xs.take (xs.length / 2)).length = xs.length / 2 := by rw [List.length_take]; omega
    have l2 : (xs.drop (xs.length / 2)).length = xs.length - xs.length / 2 := by rw [List.length_drop]
    refine (leafOf_spec (p1.ext E) (hg.take _) (by omega) (by omega)).mono ?_
    rintro u w1 ⟨e1, b, rfl, hd1⟩
    have F1 := E.trans e1
    refine ⟨F1, ?_⟩
    rw [stillS_eq (fun w1 h1 K => sIface_mk S.tcq_P_tree_leaf) F1]
    refine (leafOf_spec (p2.ext F1) (hg.drop _) (by omega) (by omega)).mono ?_
    rintro u w2 ⟨e2, b', rfl, hd2⟩
    have F2 := F1.trans e2
    refine ⟨F2, ?_⟩
    rw [stillS_eq (fun w1 h1 K => sIface_mk S.tcq_P_tree_leaf) F2]
    refine sBuildSlice_own (enc := encK) (xs := [(true, b), (true, b')]) (lp := [(0, [lfv b]), (1, [lfv b'])]) S.tel_L_tree_node S.tsz_tree_node rfl S.tze_tree_node (by decide) (by decide) encK_ok rfl rfl fun v w3 hv ho he hs => ?_
    have F3 := F2.trans he
    refine ⟨F3, F3, [((true, b), (xs.take (xs.length / 2)).length, xs.take (xs.length / 2)), ((true, b'), (xs.drop (xs.length / 2)).length, xs.drop (xs.length / 2))], ho.sl encK_ok, by simp, fun t ht => ?_, .inr ⟨_, _, rfl, by dsimp only; omega, by dsimp only; omega⟩⟩
    simp only [List.mem_cons, List.not_mem_nil, or_false] at ht
    rcases ht with rfl | rfl
    · exact (hd1.ext e2).ext he
    · exact hd2.ext he

theorem kids_part {ks : List Kd} {w : World} {v : Value} (hl : Sl w v 1 encK (ks.map (·.1))) {lo hi mx : Nat} (h1 : lo ≤ hi) (h2 : hi ≤ ks.length) (h3 : hi ≤ mx) (h4 : mx ≤ capV v) : Sl w (slV v 1 lo hi mx) 1 encK (((ks.take hi).drop lo).map (·.1)) := by
  have := hl.part (lo := lo) (hi := hi) (mx := mx) h1 (by simpa using h2) h3 h4
  rwa [← List.map_take, ← List.map_drop] at this
theorem raise_spec {w : World} {l : Value} {ks : List Kd} {h : Nat} (hl : Sl w l 1 encK (ks.map (·.1))) (hk : ∀ t ∈ ks, 4 ≤ t.2.1 ∧ Nd w h t.1 t.2.1 t.2.2) (hg : Gd (ks.flatMap (·.2.2))) (h1 : 2 ≤ ks.length) (h16 : ks.length ≤ 16) :
    sCall Tryd.prog S.tree_raise.n [l] w fun u w' => Ext w w' ∧ Two w' (h + 1) u ks.length (ks.flatMap (·.2.2)) := by
  refine S.tree_raise.call ?_
  unfold S.tree_raise
  rw [sLen_sl S.tel_L_tree_node hl, List.length_map, sBin_leq, sIf_dec]
  refine ⟨fun h8 => ?_, fun h8 => ?_⟩
  · refine (innerOf_spec hl hk hg h1 (by omega)).mono ?_
    rintro u w1 ⟨e1, b, rfl, hd⟩
    rw [sIface_mk S.tcq_P_tree_inner]
    refine sBuildSlice_own (enc := encK) (xs := [(false, b)]) (lp := [(0, [inv b])]) S.tel_L_tree_node S.tsz_tree_node rfl S.tze_tree_node (by decide) (by decide) encK_ok rfl rfl fun v w2 hv ho he hs => ?_
    exact ⟨e1.trans he, [((false, b), ks.length, ks.flatMap (·.2.2))], ho.sl encK_ok, by simp, fun t ht => by simp at ht; subst ht; exact hd.ext he, .inl ⟨_, rfl, Nat.le_refl _⟩⟩
  · have hcap := sl_cap hl
    rw [List.length_map] at hcap
    rw [sLen_sl S.tel_L_tree_node hl, List.length_map, sBin_quo _ _ (by omega) (by omega) (by omega)]
    refine DrawS.ext ?_
    have E : Ext w w.drew := (Ext.refl w).drew
    have hm : ((ks.length : Int) / 2) = ((ks.length / 2 : Nat) : Int) := by omega
    rw [stillS_eq (fun w1 h1 K => sSlice_hm S.tel_L_tree_node S.tsz_tree_node (by omega) (hl.ext h1) hm hm (by omega) (by omega)) E,
      stillS_eq (fun w1 h1 K => sSlice_l S.tel_L_tree_node S.tsz_tree_node (by omega) (hl.ext h1) hm (by rw [List.length_map]; omega)) E, List.length_map]
    have p1 : Sl w (slV l 1 0 (ks.length / 2) (ks.length / 2)) 1 encK ((ks.take (ks.length / 2)).map (·.1)) := by
      simpa using kids_part hl (lo := 0) (hi := ks.length / 2) (mx := ks.length / 2) (by omega) (by omega) (by omega) (by omega)
    have p2 : Sl w (slV l 1 (ks.length / 2) ks.length (capV l)) 1 encK ((ks.drop (ks.length / 2)).map (·.1)) := by
      have := kids_part hl (lo := ks.length / 2) (hi := ks.length) (mx := capV l) (by omega) (by omega) (by omega) (by omega)
      rwa [List.take_length] at this
    have l1 : (ks.take (ks.length / 2)).length = ks.length / 2 := by rw [List.length_take]; omega
    have l2 : (ks.drop (ks.length / 2)).length = ks.length - ks.length / 2 := by rw [List.length_drop]
    have hfl : (ks.take (ks.length / 2)).flatMap (·.2.2) ++ (ks.drop (ks.length / 2)).flatMap (·.2.2) = ks.flatMap (·.2.2) := by rw [← List.flatMap_append, List.take_append_drop]
    have hln := congrArg List.length hfl
    rw [List.length_append] at hln
    have g1 : Gd ((ks.take (ks.length / 2)).flatMap (·.2.2)) := hg.sub (fun x hx => by rw [← hfl]; exact List.mem_append_left _ hx) (by omega)
    have g2 : Gd ((ks.drop (ks.length / 2)).flatMap (·.2.2)) := hg.sub (fun x hx => by rw [← hfl]; exact List.mem_append_right _ hx) (by omega)
    refine (innerOf_spec (p1.ext E) (fun t ht => ⟨(hk t (List.mem_of_mem_take ht)).1, (hk t (List.mem_of_mem_take ht)).2.ext E⟩) g1 (by omega) (by omega)).mono ?_
    rintro u w1 ⟨e1, b, rfl, hd1⟩
    have F1 := E.trans e1
    refine ⟨F1, ?_⟩
    rw [stillS_eq (fun w1 h1 K => sIface_mk S.tcq_P_tree_inner) F1]
    refine (innerOf_spec (p2.ext F1) (fun t ht => ⟨(hk t (List.mem_of_mem_drop ht)).1, (hk t (List.mem_of_mem_drop ht)).2.ext F1⟩) g2 (by omega) (by omega)).mono ?_
    rintro u w2 ⟨e2, b', rfl, hd2⟩
    have F2 := F1.trans e2
    refine ⟨F2, ?_⟩
    rw [stillS_eq (fun w1 h1 K => sIface_mk S.tcq_P_tree_inner) F2]
    refine sBuildSlice_own (enc := encK) (xs := [(false, b), (false, b')]) (lp := [(0, [inv b]), (1, [inv b'])]) S.tel_L_tree_node S.tsz_tree_node rfl S.tze_tree_node (by decide) (by decide) encK_ok rfl rfl fun v w3 hv ho he hs => ?_
    have F3 := F2.trans he
    refine ⟨F3, F3, [((false, b), (ks.take (ks.length / 2)).length, (ks.take (ks.length / 2)).flatMap (·.2.2)), ((false, b'), (ks.drop (ks.length / 2)).length, (ks.drop (ks.length / 2)).flatMap (·.2.2))], ho.sl encK_ok, by simpa using hfl, fun t ht => ?_, .inr ⟨_, _, rfl, by dsimp only; omega, by dsimp only; omega⟩⟩
    simp only [List.mem_cons, List.not_mem_nil, or_false] at ht
    rcases ht with rfl | rfl
    · exact (hd1.ext e2).ext he
    · exact hd2.ext he

theorem Two.all4 {w : World} {h m : Nat} {u : Value} {xs : List It} (ht : Two w h u m xs) (hm : 4 ≤ m) : ∃ ks : List Kd, Sl w u 1 encK (ks.map (·.1)) ∧ ks.flatMap (·.2.2) = xs ∧ (∀ t ∈ ks, 4 ≤ t.2.1 ∧ Nd w h t.1 t.2.1 t.2.2) ∧ 1 ≤ ks.length ∧ ks.length ≤ 2 := by
  obtain ⟨ks, h1, h2, h3, h4⟩ := ht
  refine ⟨ks, h1, h2, fun t ht => ⟨?_, h3 t ht⟩, ?_⟩
  · rcases h4 with ⟨q, rfl, hq⟩ | ⟨q, q', rfl, hq, hq'⟩
    · simp at ht; subst ht; omega
    · simp at ht; rcases ht with rfl | rfl <;> omega
  · rcases h4 with ⟨q, rfl, hq⟩ | ⟨q, q', rfl, hq, hq'⟩ <;> simp

theorem nd_inner {w : World} {h : Nat} {k : Nv} {c : Nat} {xs : List It} (hd : Nd w (h + 1) k c xs) : ∃ (b : Nat) (s : SV) (ks : List Kd), k = (false, b) ∧ 2 ≤ ks.length ∧ ks.length ≤ 8 ∧ ks.length = c ∧ Cells w b 0 (sv s :: .int .i64 ((h : Int) + 2) :: encS (allS xs)) ∧ Sl w (sv s) 1 encK (ks.map (·.1)) ∧ xs = ks.flatMap (·.2.2) ∧ ∀ t ∈ ks, 4 ≤ t.2.1 ∧ Nd w h t.1 t.2.1 t.2.2 := by
  obtain ⟨h1, h2, h3, s, ks, h4, h5, h6, h7, h8⟩ := hd
  obtain ⟨t, b⟩ := k
  obtain rfl : t = false := h1
  exact ⟨b, s, ks, rfl, by omega, by omega, h6, h4, h5, h7, h8⟩
theorem nd_leaf {w : World} {k : Nv} {c : Nat} {xs : List It} (hd : Nd w 0 k c xs) : ∃ (b : Nat) (s : SV), k = (true, b) ∧ 1 ≤ xs.length ∧ xs.length ≤ 8 ∧ xs.length = c ∧ Cells w b 0 (sv s :: encS (allS xs)) ∧ Sl w (sv s) 7 encT xs := by
  obtain ⟨h1, h2, h3, h4, s, h5, h6⟩ := hd
  obtain ⟨t, b⟩ := k
  obtain rfl : t = true := h1
  exact ⟨b, s, rfl, by omega, by omega, h2.symm, h5, h6⟩

theorem meld_spec : ∀ (n : Nat) {w : World} {ha hb : Nat} {ka kb : Nv} {ca cb : Nat} {xa xb : List It}, ha + hb < n → Nd w ha ka ca xa → Nd w hb kb cb xb → Gd (xa ++ xb) →
    sCall Tryd.prog S.tree_meld.n [ndv ka, ndv kb] w fun u w' => Ext w w' ∧ ∃ m, Two w' (max ha hb) u m (xa ++ xb) ∧ (hb ≤ ha → ca ≤ m) ∧ (ha ≤ hb → cb ≤ m) := by
  intro n
  induction n with
  | zero => intro w ha hb ka kb ca cb xa xb hn; omega
  | succ n ih =>
    intro w ha hb ka kb ca cb xa xb hn hA hB hg
    have gA : Gd xa := hg.sub (fun x hx => List.mem_append_left _ hx) (by simp)
    have gB : Gd xb := hg.sub (fun x hx => List.mem_append_right _ hx) (by simp)
    have hhA := hA.high gA.n
    have hhB := hB.high gB.n
    refine S.tree_meld.call ?_
    unfold S.tree_meld
    refine (heightOf_spec hA).mono ?_
    rintro u w ⟨rfl, rfl⟩
    refine (heightOf_spec hB).mono ?_
    rintro u w ⟨rfl, rfl⟩
    rw [sBin_gtr, sIf_dec]
    refine ⟨fun hgt => ?_, fun hle => ?_⟩
    · obtain ⟨h, rfl⟩ : ∃ h, ha = h + 1 := ⟨ha - 1, by omega⟩
      obtain ⟨b, s, ks, rfl, k2, k8, rfl, hc, hsl, rfl, hk⟩ := nd_inner hA
      have hcap := sl_cap hsl
      rw [List.length_map] at hcap
      rw [ndv_f, sAssert_is S.tcq_P_tree_inner, sNil_ptr, sFldA_ptr S.tfl_tree_inner_kids, sLoad_cell S.tcell_L_tree_node (hc.fst rfl), sLen_sl S.tel_L_tree_node hsl, List.length_map, sBin_sub _ _ ⟨by omega, by omega⟩]
      obtain ⟨t, ht⟩ : ∃ t, ks[ks.length - 1]? = some t := ⟨_, List.getElem?_eq_getElem (by omega)⟩
      obtain ⟨q4, hkt⟩ := hk t (List.mem_of_getElem? ht)
      have hm1 : ((ks.length : Int) - 1) = ((ks.length - 1 : Nat) : Int) := by omega
      obtain ⟨b1, o1, hel1, hc1⟩ := hsl.el (kids_at ht)
      refine DrawS.ext ?_
      have E : Ext w w.drew := (Ext.refl w).drew
      rw [sNil_ptr, stillS_eq (fun w1 h1 K => sFldA_ptr S.tfl_tree_inner_kids) E, stillS_cell S.tcell_L_tree_node (hc.fst rfl) E,
        stillS_eq (fun w1 h1 K => sSlice_h S.tel_L_tree_node S.tsz_tree_node (by omega) (hsl.ext h1) hm1 (by rw [List.length_map]; omega)) E,
        sNil_ptr, stillS_eq (fun w1 h1 K => sFldA_ptr S.tfl_tree_inner_kids) E, stillS_cell S.tcell_L_tree_node (hc.fst rfl) E,
        stillS_eq (fun w1 h1 K => sIdxA_sl S.tel_L_tree_node S.tsz_tree_node (by omega) (hsl.ext h1) (kids_at ht) hm1) E, hel1, stillS_cell S.tcell_tree_node (hc1.fst rfl) E]
      have p1 : Sl w (slV (sv s) 1 0 (ks.length - 1) (capV (sv s))) 1 encK ((ks.take (ks.length - 1)).map (·.1)) := by
        simpa using kids_part hsl (lo := 0) (hi := ks.length - 1) (mx := capV (sv s)) (by omega) (by omega) (by omega) (by omega)
      have htk : ks = ks.take (ks.length - 1) ++ [t] := by
        rw [← take_succ_of ht, Nat.sub_add_cancel (by omega), List.take_length]
      have hfl : (ks.take (ks.length - 1)).flatMap (·.2.2) ++ t.2.2 = ks.flatMap (·.2.2) := by
        conv => rhs; rw [htk]
        rw [List.flatMap_append, List.flatMap_singleton]
      refine (ih (w := w.drew) (by omega) (hkt.ext E) (hB.ext E) (hg.sub (fun x hx => ?_) ?_)).mono ?_
      · rw [← hfl, List.append_assoc]; exact List.mem_append_right _ hx
      · rw [← hfl]; simp
      rintro u w1 ⟨e1, m, h2, hm, _⟩
      have F1 := E.trans e1
      refine ⟨F1, ?_⟩
      rw [show max h hb = h from by omega] at h2
      obtain ⟨ks2, s1, s2, s3, s4, s5⟩ := h2.all4 (by have := hm (by omega); omega)
      have hl1 : (ks.take (ks.length - 1)).length = ks.length - 1 := by rw [List.length_take]; omega
      refine (put_spec (p1.ext F1) s1 (by rw [List.length_map, List.length_map]; omega)).mono ?_
      rintro u w2 ⟨e2, h3⟩
      have F2 := F1.trans e2
      refine ⟨F2, ?_⟩
      rw [← List.map_append] at h3
      have hfl2 : (ks.take (ks.length - 1) ++ ks2).flatMap (·.2.2) = ks.flatMap (·.2.2) ++ xb := by
        rw [List.flatMap_append, s2, ← hfl, List.append_assoc]
      refine (raise_spec (h := h) h3 (fun q hq => ?_) (by rw [hfl2]; exact hg) (by rw [List.length_append]; omega) (by rw [List.length_append]; omega)).mono ?_
      · rcases List.mem_append.1 hq with hq | hq
        · exact ⟨(hk q (List.mem_of_mem_take hq)).1, (hk q (List.mem_of_mem_take hq)).2.ext F2⟩
        · exact ⟨(s3 q hq).1, (s3 q hq).2.ext e2⟩
      rintro u w3 ⟨e3, h4⟩
      have F3 := F2.trans e3
      refine ⟨F3, F3, (ks.take (ks.length - 1) ++ ks2).length, ?_, fun _ => ?_, fun h' => by omega⟩
      · rw [show max (h + 1) hb = h + 1 from by omega, ← hfl2]; exact h4
      · rw [List.length_append]; omega
    rw [sBin_lss, sIf_dec]
    refine ⟨fun hgt => ?_, fun hle2 => ?_⟩
    · obtain ⟨h, rfl⟩ : ∃ h, hb = h + 1 := ⟨hb - 1, by omega⟩
      obtain ⟨b, s, ks, rfl, k2, k8, rfl, hc, hsl, rfl, hk⟩ := nd_inner hB
      have hcap := sl_cap hsl
      rw [List.length_map] at hcap
      rw [ndv_f, sAssert_is S.tcq_P_tree_inner]
      obtain ⟨t, ht⟩ : ∃ t, ks[0]? = some t := ⟨_, List.getElem?_eq_getElem (by omega)⟩
      obtain ⟨q4, hkt⟩ := hk t (List.mem_of_getElem? ht)
      obtain ⟨b1, o1, hel1, hc1⟩ := hsl.el (kids_at ht)
      refine DrawS.ext ?_
      have E : Ext w w.drew := (Ext.refl w).drew
      rw [sNil_ptr, stillS_eq (fun w1 h1 K => sFldA_ptr S.tfl_tree_inner_kids) E, stillS_cell S.tcell_L_tree_node (hc.fst rfl) E,
        stillS_eq (fun w1 h1 K => sIdxA_sl (i := 0) (z := 0) S.tel_L_tree_node S.tsz_tree_node (by omega) (hsl.ext h1) (kids_at ht) rfl) E, hel1, stillS_cell S.tcell_tree_node (hc1.fst rfl) E,
        sNil_ptr, stillS_eq (fun w1 h1 K => sFldA_ptr S.tfl_tree_inner_kids) E, stillS_cell S.tcell_L_tree_node (hc.fst rfl) E,
        stillS_eq (fun w1 h1 K => sSlice_l (lo := 1) (zl := 1) S.tel_L_tree_node S.tsz_tree_node (by omega) (hsl.ext h1) rfl (by rw [List.length_map]; omega)) E, List.length_map]
      have p1 : Sl w (slV (sv s) 1 1 ks.length (capV (sv s))) 1 encK ((ks.drop 1).map (·.1)) := by
        have := kids_part hsl (lo := 1) (hi := ks.length) (mx := capV (sv s)) (by omega) (by omega) (by omega) (by omega)
        rwa [List.take_length] at this
      have htk : ks = t :: ks.drop 1 := by
        have := drop_cons_of ht
        simpa using this
      have hfl : t.2.2 ++ (ks.drop 1).flatMap (·.2.2) = ks.flatMap (·.2.2) := by
        conv => rhs; rw [htk]
        rw [List.flatMap_cons]
      refine (ih (w := w.drew) (by omega) (hA.ext E) (hkt.ext E) (hg.sub (fun x hx => ?_) ?_)).mono ?_
      · rw [← hfl, ← List.append_assoc]; exact List.mem_append_left _ hx
      · rw [← hfl]; simp
      rintro u w1 ⟨e1, m, h2, _, hm⟩
      have F1 := E.trans e1
      refine ⟨F1, ?_⟩
      rw [show max ha h = h from by omega] at h2
      obtain ⟨ks2, s1, s2, s3, s4, s5⟩ := h2.all4 (by have := hm (by omega); omega)
      have hl1 : (ks.drop 1).length = ks.length - 1 := by rw [List.length_drop]
      refine (put_spec s1 (p1.ext F1) (by rw [List.length_map, List.length_map]; omega)).mono ?_
      rintro u w2 ⟨e2, h3⟩
      have F2 := F1.trans e2
      refine ⟨F2, ?_⟩
      rw [← List.map_append] at h3
      have hfl2 : (ks2 ++ ks.drop 1).flatMap (·.2.2) = xa ++ ks.flatMap (·.2.2) := by
        rw [List.flatMap_append, s2, ← hfl, List.append_assoc]
      refine (raise_spec (h := h) h3 (fun q hq => ?_) (by rw [hfl2]; exact hg) (by rw [List.length_append]; omega) (by rw [List.length_append]; omega)).mono ?_
      · rcases List.mem_append.1 hq with hq | hq
        · exact ⟨(s3 q hq).1, (s3 q hq).2.ext e2⟩
        · exact ⟨(hk q (List.mem_of_mem_drop hq)).1, (hk q (List.mem_of_mem_drop hq)).2.ext F2⟩
      rintro u w3 ⟨e3, h4⟩
      have F3 := F2.trans e3
      refine ⟨F3, F3, (ks2 ++ ks.drop 1).length, ?_, fun h' => by omega, fun _ => ?_⟩
      · rw [show max ha (h + 1) = h + 1 from by omega, ← hfl2]; exact h4
      · rw [List.length_append]; omega
    obtain rfl : ha = hb := by omega
    rw [Nat.max_self]
    cases ha with
    | zero =>
      obtain ⟨b, s, rfl, k1, k8, rfl, hc, hsl⟩ := nd_leaf hA
      obtain ⟨b', s', rfl, k1', k8', rfl, hc', hsl'⟩ := nd_leaf hB
      have hmx : maxLen = 9223372036854775807 := rfl
      rw [ndv_t, ndv_t, sAssert_yes S.tcq_P_tree_leaf, sExtract_0, sExtract_1, sIf_true, sAssert_is S.tcq_P_tree_leaf]
      refine DrawS.ext ?_
      have E : Ext w w.drew := (Ext.refl w).drew
      rw [sNil_ptr, stillS_eq (fun w1 h1 K => sFldA_ptr S.tfl_tree_leaf_items) E, stillS_cell S.tcell_L_item_Item (hc.fst rfl) E, stillS_eq (fun w1 h1 K => sLen_sl S.tel_L_item_Item (hsl.ext h1)) E,
        sNil_ptr, stillS_eq (fun w1 h1 K => sFldA_ptr S.tfl_tree_leaf_items) E, stillS_cell S.tcell_L_item_Item (hc'.fst rfl) E, stillS_eq (fun w1 h1 K => sLen_sl S.tel_L_item_Item (hsl'.ext h1)) E,
        stillS_eq (fun w1 h1 K => sBin_add _ _ ⟨by omega, by omega⟩) E]
      refine sMake_own (enc := encT) (c := xa.length + xb.length) S.tel_L_item_Item S.tsz_item_Item S.tze_item_Item (by omega) (by rw [S.tby_item_Item]; omega) (by omega) fun v w1 hv e1 => ?_
      have F1 := E.trans e1
      refine ⟨F1, ?_⟩
      rw [sNil_ptr, sFldA_ptr S.tfl_tree_leaf_items, sLoad_cell S.tcell_L_item_Item ((hc.ext F1).fst rfl)]
      refine sAppend_own S.tel_L_item_Item S.tsz_item_Item (by decide) S.tze_item_Item rfl encT_ok hv e1.size (hsl.ext F1) (by simp; omega) (by rw [S.tby_item_Item]; simp; omega) fun v2 w2 hv2 hg2 => ?_
      have F2 : Ext w w2 := F1.wr hg2 fun g hg => (hv.lt g hg).1
      rw [sNil_ptr, sFldA_ptr S.tfl_tree_leaf_items, sLoad_cell S.tcell_L_item_Item ((hc'.ext F2).fst rfl)]
      refine sAppend_own S.tel_L_item_Item S.tsz_item_Item (by decide) S.tze_item_Item rfl encT_ok hv2 F2.size (hsl'.ext F2) (by simp; omega) (by rw [S.tby_item_Item]; simp; omega) fun v3 w3 hv3 hg3 => ?_
      have F3 : Ext w w3 := F2.wr hg3 fun g hg => (hv2.lt g hg).1
      have hs3 : Sl w3 v3 7 encT (xa ++ xb) := by simpa using hv3.sl encT_ok
      refine (spread_spec hs3 hg (by rw [List.length_append]; omega) (by rw [List.length_append]; omega)).mono ?_
      rintro u w4 ⟨e4, h4⟩
      exact ⟨F3.trans e4, _, h4, fun _ => by rw [List.length_append]; omega, fun _ => by rw [List.length_append]; omega⟩
    | succ h =>
      obtain ⟨b, s, ks, rfl, k2, k8, rfl, hc, hsl, rfl, hk⟩ := nd_inner hA
      obtain ⟨b', s', ks', rfl, k2', k8', rfl, hc', hsl', rfl, hk'⟩ := nd_inner hB
      obtain ⟨z, hz⟩ := sAssert_no (P := Tryd.prog) (T := S.T.tree_node) (v := .pointer (some ⟨b, 0, none⟩)) (B := S.T.P_tree_inner) S.tcq_P_tree_leaf (by decide)
      rw [ndv_f, ndv_f, hz, sExtract_0, sExtract_1, sIf_false]
      refine DrawS.ext ?_
      have E : Ext w w.drew := (Ext.refl w).drew
      rw [stillS_eq (fun w1 h1 K => sAssert_is S.tcq_P_tree_inner) E, sNil_ptr, stillS_eq (fun w1 h1 K => sFldA_ptr S.tfl_tree_inner_kids) E, stillS_cell S.tcell_L_tree_node (hc.fst rfl) E,
        stillS_eq (fun w1 h1 K => sAssert_is S.tcq_P_tree_inner) E, sNil_ptr, stillS_eq (fun w1 h1 K => sFldA_ptr S.tfl_tree_inner_kids) E, stillS_cell S.tcell_L_tree_node (hc'.fst rfl) E]
      refine (put_spec (hsl.ext E) (hsl'.ext E) (by rw [List.length_map, List.length_map]; omega)).mono ?_
      rintro u w2 ⟨e2, h3⟩
      have F2 := E.trans e2
      refine ⟨F2, ?_⟩
      rw [← List.map_append] at h3
      refine (raise_spec (h := h) h3 (fun q hq => ?_) (by rw [List.flatMap_append]; exact hg) (by rw [List.length_append]; omega) (by rw [List.length_append]; omega)).mono ?_
      · rcases List.mem_append.1 hq with hq | hq
        · exact ⟨(hk q hq).1, (hk q hq).2.ext F2⟩
        · exact ⟨(hk' q hq).1, (hk' q hq).2.ext F2⟩
      rintro u w3 ⟨e3, h4⟩
      have F3 := F2.trans e3
      rw [List.flatMap_append, List.length_append] at h4
      exact ⟨F3, F3, _, h4, fun _ => by omega, fun _ => by omega⟩
end Go.Proofs.YtpjmmhbdondknaaDoor
