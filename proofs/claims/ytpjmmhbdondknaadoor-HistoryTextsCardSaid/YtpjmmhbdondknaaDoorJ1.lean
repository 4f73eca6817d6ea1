/- Batches of edits: plain laws. No conditions. -/
import Derived.Test.YtpjmmhbdondknaaDoorHe
namespace Go.Proofs.YtpjmmhbdondknaaDoor
open Go Go.Lift Go.RowKit Go.Txt

/-- How many runes an edit's text has. -/
def nr (x : Ed) : Nat := (runes x.2.2).length
def dlt (x : Ed) : Int := nr x - (x.2.1 - x.1)
def siz (l : List Ed) : Int := (l.map dlt).sum
def tnr (l : List Ed) : Nat := (l.map nr).sum
theorem siz_nil : siz [] = 0 := rfl
theorem siz_cons (x : Ed) (l : List Ed) : siz (x :: l) = dlt x + siz l := by unfold siz; rw [List.map_cons, List.sum_cons]
theorem siz_snoc (l : List Ed) (x : Ed) : siz (l ++ [x]) = siz l + dlt x := by
  induction l with
  | nil => rw [List.nil_append, siz_cons, siz_nil]; omega
  | cons y l ih => rw [List.cons_append, siz_cons, siz_cons, ih]; omega
theorem tnr_cons (x : Ed) (l : List Ed) : tnr (x :: l) = nr x + tnr l := by unfold tnr; rw [List.map_cons, List.sum_cons]
def chkL (n : Int) : Int → List Ed → Int
  | _, [] => 0
  | last, x :: l => if 0 ≤ x.1 ∧ x.1 ≤ x.2.1 ∧ x.2.1 ≤ n then (if x.1 < last then 90 else chkL n x.2.1 l) else 1
def chk (n : Int) (l : List Ed) : Int := if 64 < l.length then 2 else chkL n 0 l
/-- What is wrong with a batch for a text of so many runes. -/
def wrg (n : Nat) (l : List Ed) : Int := if chk n l = 0 then (if 20000 < (n : Int) + siz l then 5 else 0) else chk n l
def Val (n : Int) : Int → List Ed → Prop
  | _, [] => True
  | last, x :: l => (0 ≤ x.1 ∧ x.1 ≤ x.2.1 ∧ x.2.1 ≤ n) ∧ last ≤ x.1 ∧ Val n x.2.1 l
theorem chkL_zero (n : Int) : ∀ (l : List Ed) (last : Int), chkL n last l = 0 ↔ Val n last l
  | [], _ => by simp [chkL, Val]
  | x :: l, last => by
    unfold chkL Val
    by_cases h1 : 0 ≤ x.1 ∧ x.1 ≤ x.2.1 ∧ x.2.1 ≤ n
    · rw [if_pos h1]
      by_cases h2 : x.1 < last
      · rw [if_pos h2]
        constructor
        · intro h; omega
        · rintro ⟨_, h3, _⟩; omega
      · rw [if_neg h2, chkL_zero n l x.2.1]
        exact ⟨fun h => ⟨h1, by omega, h⟩, fun h => h.2.2⟩
    · rw [if_neg h1]
      constructor
      · intro h; omega
      · intro h; exact absurd h.1 h1
theorem chk_zero {n : Int} {l : List Ed} : chk n l = 0 ↔ l.length ≤ 64 ∧ Val n 0 l := by
  unfold chk
  by_cases h : 64 < l.length
  · rw [if_pos h]
    constructor
    · intro h; omega
    · intro h; omega
  · rw [if_neg h, chkL_zero]
    exact ⟨fun h2 => ⟨by omega, h2⟩, fun h2 => h2.2⟩
theorem wrg_zero {n : Nat} {l : List Ed} : wrg n l = 0 ↔ (l.length ≤ 64 ∧ Val n 0 l) ∧ (n : Int) + siz l ≤ 20000 := by
  unfold wrg
  rw [← chk_zero]
  by_cases h : chk n l = 0
  · rw [if_pos h]
    by_cases h2 : 20000 < (n : Int) + siz l
    · rw [if_pos h2]
      constructor
      · intro h; omega
      · rintro ⟨_, h⟩; omega
    · rw [if_neg h2]
      exact ⟨fun _ => ⟨h, by omega⟩, fun _ => rfl⟩
  · rw [if_neg h]
    exact ⟨fun h1 => absurd h1 h, fun h1 => absurd h1.1 h⟩
theorem Val.mono {n a b : Int} {l : List Ed} (h : Val n b l) (hab : a ≤ b) : Val n a l := by
  cases l with
  | nil => trivial
  | cons x l => exact ⟨h.1, by have := h.2.1; omega, h.2.2⟩
theorem Val.mem {n : Int} : ∀ {l : List Ed} {a : Int}, Val n a l → ∀ x ∈ l, 0 ≤ x.1 ∧ x.1 ≤ x.2.1 ∧ x.2.1 ≤ n
  | [], _, _, _, hx => by cases hx
  | y :: l, _, h, x, hx => by
    rcases List.mem_cons.1 hx with rfl | hx
    · exact h.1
    · exact Val.mem h.2.2 x hx
theorem Val.take {n : Int} : ∀ {l : List Ed} {a : Int}, Val n a l → ∀ i, Val n a (l.take i)
  | [], _, _, i => by rw [List.take_nil]; trivial
  | _ :: _, _, _, 0 => trivial
  | _ :: _, _, h, i + 1 => ⟨h.1, h.2.1, h.2.2.take i⟩
theorem siz_le {n : Int} : ∀ {l : List Ed} {a : Int}, Val n a l → siz l ≤ tnr l
  | [], _, _ => by simp [siz, tnr]
  | x :: l, _, h => by
    have := siz_le h.2.2
    rw [siz_cons, tnr_cons]
    unfold dlt
    have := h.1
    omega
/-- Bounds of the sum, step by step. -/
theorem siz_bd {n M : Nat} : ∀ {l : List Ed}, (∀ x ∈ l, 0 ≤ x.1 ∧ x.1 ≤ x.2.1 ∧ x.2.1 ≤ n) → (∀ x ∈ l, nr x ≤ M) → -(n * l.length : Nat) ≤ siz l ∧ siz l ≤ (M * l.length : Nat)
  | [], _, _ => by simp [siz]
  | x :: l, h1, h2 => by
    have ih := siz_bd (n := n) (M := M) (l := l) (fun y hy => h1 y (List.mem_cons_of_mem _ hy)) (fun y hy => h2 y (List.mem_cons_of_mem _ hy))
    have a := h1 x (List.mem_cons_self ..)
    have b := h2 x (List.mem_cons_self ..)
    rw [siz_cons, List.length_cons, Nat.mul_add, Nat.mul_add, Nat.mul_one, Nat.mul_one]
    unfold dlt
    omega
/-- The text that comes of a batch, edit by edit, from the last one. -/
def app (r : List Int) (l : List Ed) : List Int := l.foldr (fun x out => out.take x.1.toNat ++ runes x.2.2 ++ out.drop x.2.1.toNat) r
theorem app_cons (r : List Int) (x : Ed) (l : List Ed) : app r (x :: l) = (app r l).take x.1.toNat ++ runes x.2.2 ++ (app r l).drop x.2.1.toNat := rfl
/-- What stands from a place on, piece by piece. -/
def pc (r : List Int) : Nat → List Ed → List Int
  | a, [] => r.drop a
  | a, x :: l => (r.drop a).take (x.1.toNat - a) ++ runes x.2.2 ++ pc r x.2.1.toNat l
def mid (r : List Int) : Nat → List Ed → List Int
  | _, [] => []
  | a, x :: l => (r.drop a).take (x.1.toNat - a) ++ runes x.2.2 ++ mid r x.2.1.toNat l
def lastTo : Nat → List Ed → Nat
  | a, [] => a
  | _, x :: l => lastTo x.2.1.toNat l
theorem pc_mid (r : List Int) : ∀ (l : List Ed) (a : Nat), pc r a l = mid r a l ++ r.drop (lastTo a l)
  | [], a => by rw [pc, mid, lastTo, List.nil_append]
  | x :: l, a => by rw [pc, mid, lastTo, pc_mid r l, List.append_assoc, List.append_assoc, List.append_assoc]
theorem mid_snoc (r : List Int) : ∀ (l : List Ed) (a : Nat) (x : Ed), mid r a (l ++ [x]) = mid r a l ++ ((r.drop (lastTo a l)).take (x.1.toNat - lastTo a l) ++ runes x.2.2)
  | [], a, x => by rw [List.nil_append, mid, mid, mid, lastTo, List.append_nil, List.nil_append]
  | y :: l, a, x => by rw [List.cons_append, mid, mid, lastTo, mid_snoc r l]; simp only [List.append_assoc]
theorem last_snoc : ∀ (l : List Ed) (a : Nat) (x : Ed), lastTo a (l ++ [x]) = x.2.1.toNat
  | [], _, _ => rfl
  | y :: l, _, x => by rw [List.cons_append, lastTo, last_snoc l]
theorem Val.last {n : Nat} : ∀ {l : List Ed} {a : Nat}, Val n a l → a ≤ n → a ≤ lastTo a l ∧ lastTo a l ≤ n
  | [], _, _, h => ⟨Nat.le_refl _, h⟩
  | x :: l, a, h, _ => by
    have h1 := h.1
    have h2 := h.2.1
    have := Val.last (n := n) (l := l) (a := x.2.1.toNat) (by rw [Int.toNat_of_nonneg (by omega)]; exact h.2.2) (by omega)
    rw [lastTo]
    omega
theorem Val.at {n : Nat} : ∀ {l : List Ed} {a : Nat} {i : Nat} {x : Ed}, Val n a l → a ≤ n → l[i]? = some x → (lastTo a (l.take i) : Int) ≤ x.1
  | [], _, _, _, _, _, h => by simp at h
  | y :: l, a, 0, x, h, _, hx => by
    simp only [List.getElem?_cons_zero, Option.some.injEq] at hx
    subst hx
    exact h.2.1
  | y :: l, a, i + 1, x, h, _, hx => by
    have h1 := h.1
    simp only [List.getElem?_cons_succ] at hx
    rw [List.take_succ_cons, lastTo]
    exact Val.at (n := n) (l := l) (a := y.2.1.toNat) (by rw [Int.toNat_of_nonneg (by omega)]; exact h.2.2) (by omega) hx
theorem app_pc {r : List Int} : ∀ {l : List Ed} {a : Nat}, Val r.length a l → a ≤ r.length → app r l = r.take a ++ pc r a l
  | [], a, _, _ => by rw [pc]; exact (List.take_append_drop a r).symm
  | x :: l, a, h, ha => by
    have h1 := h.1
    have h2 := h.2.1
    have ih := app_pc (r := r) (l := l) (a := x.2.1.toNat) (by rw [Int.toNat_of_nonneg (by omega)]; exact h.2.2) (by omega)
    have e1 : (r.take x.2.1.toNat).length = x.2.1.toNat := by rw [List.length_take]; omega
    rw [app_cons, ih, pc, List.take_append_of_le_length (by omega), List.take_take, Nat.min_eq_left (by omega), List.drop_append_of_le_length (by omega)]
    have e2 : (r.take x.2.1.toNat).drop x.2.1.toNat = [] := List.drop_eq_nil_of_le (by omega)
    rw [e2, List.nil_append]
    have e3 : r.take x.1.toNat = r.take a ++ (r.drop a).take (x.1.toNat - a) := by
      conv => lhs; rw [← List.take_append_drop a (r.take x.1.toNat)]
      rw [List.take_take, Nat.min_eq_left (by omega), List.drop_take]
    rw [e3]
    simp only [List.append_assoc]
theorem pc_len {r : List Int} : ∀ {l : List Ed} {a : Nat}, Val r.length a l → a ≤ r.length → ((pc r a l).length : Int) = (r.length - a) + siz l
  | [], a, _, ha => by rw [pc, List.length_drop, siz_nil]; omega
  | x :: l, a, h, ha => by
    have h1 := h.1
    have h2 := h.2.1
    have ih := pc_len (r := r) (l := l) (a := x.2.1.toNat) (by rw [Int.toNat_of_nonneg (by omega)]; exact h.2.2) (by omega)
    rw [pc, List.length_append, List.length_append, List.length_take, List.length_drop, siz_cons]
    unfold dlt nr
    omega
theorem app_len {r : List Int} {l : List Ed} (h : Val r.length 0 l) : ((app r l).length : Int) = r.length + siz l := by
  have h1 := app_pc (r := r) (l := l) (a := 0) h (Nat.zero_le _)
  have h2 := pc_len (r := r) (l := l) (a := 0) h (Nat.zero_le _)
  rw [h1, List.take_zero, List.nil_append, h2]
  omega
theorem app_at {r : List Int} {l : List Ed} {a : Nat} (h : Val r.length a l) (ha : a ≤ r.length) : a ≤ (app r l).length := by
  rw [app_pc h ha, List.length_append, List.length_take]
  omega
theorem Val.drop {n : Int} : ∀ {l : List Ed} {a : Int} {i : Nat} {x : Ed}, Val n a l → l[i]? = some x → (0 ≤ x.1 ∧ x.1 ≤ x.2.1 ∧ x.2.1 ≤ n) ∧ Val n x.2.1 (l.drop (i + 1))
  | [], _, _, _, _, h => by simp at h
  | y :: l, _, 0, x, h, hx => by
    simp only [List.getElem?_cons_zero, Option.some.injEq] at hx
    subst hx
    exact ⟨h.1, h.2.2⟩
  | y :: l, _, i + 1, x, h, hx => by
    simp only [List.getElem?_cons_succ] at hx
    exact Val.drop (l := l) (i := i) h.2.2 hx
theorem app_ok {r : List Int} (hr : ∀ c ∈ r, okR c) : ∀ (l : List Ed), ∀ c ∈ app r l, okR c
  | [] => hr
  | x :: l => fun c hc => by
    rw [app_cons, List.mem_append, List.mem_append] at hc
    rcases hc with (hc | hc) | hc
    · exact app_ok hr l c (List.mem_of_mem_take hc)
    · exact runes_ok _ c hc
    · exact app_ok hr l c (List.mem_of_mem_drop hc)
theorem mid_ok {r : List Int} (hr : ∀ c ∈ r, okR c) : ∀ (l : List Ed) (a : Nat), ∀ c ∈ mid r a l, okR c
  | [], _, c, hc => by simp [mid] at hc
  | x :: l, a, c, hc => by
    rw [mid, List.mem_append, List.mem_append] at hc
    rcases hc with (hc | hc) | hc
    · exact hr c (List.mem_of_mem_drop (List.mem_of_mem_take hc))
    · exact runes_ok _ c hc
    · exact mid_ok hr l _ c hc
/-- The text of a batch that is put in at once. -/
theorem app_once {r : List Int} {x : Ed} {l : List Ed} (h : Val r.length 0 (x :: l)) : app r (x :: l) = r.take x.1.toNat ++ mid r x.1.toNat (x :: l) ++ r.drop (lastTo x.1.toNat (x :: l)) := by
  have h1 := h.1
  have h2 : Val r.length (x.1.toNat : Nat) (x :: l) := ⟨h.1, by omega, h.2.2⟩
  rw [app_pc h2 (by omega), pc_mid, List.append_assoc]
/-- What undoes a batch. -/
def invE (r : List Int) (s : Int) (x : Ed) : Ed := (x.1 + s, x.1 + s + nr x, txt ((r.drop x.1.toNat).take (x.2.1.toNat - x.1.toNat)))
def inve (r : List Int) : Int → List Ed → List Ed
  | _, [] => []
  | s, x :: l => invE r s x :: inve r (s + dlt x) l
theorem inv_len (r : List Int) : ∀ (l : List Ed) (s : Int), (inve r s l).length = l.length
  | [], _ => rfl
  | x :: l, s => by rw [inve, List.length_cons, inv_len r l, List.length_cons]
theorem inv_snoc (r : List Int) : ∀ (l : List Ed) (s : Int) (x : Ed), inve r s (l ++ [x]) = inve r s l ++ [invE r (s + siz l) x]
  | [], s, x => by rw [List.nil_append, inve, inve, inve, siz_nil, Int.add_zero]; rfl
  | y :: l, s, x => by rw [List.cons_append, inve, inv_snoc r l, inve, siz_cons, List.cons_append, Int.add_assoc]
def clean (x : Ed) : Ed := (x.1, x.2.1, txt (runes x.2.2))
theorem undo_all {r t : List Int} (hr : ∀ c ∈ r, okR c) : ∀ {l : List Ed} {a b : Nat} {s : Int}, Val r.length a l → a ≤ r.length → (a : Int) + s = b → b ≤ t.length → t.drop b = pc r a l →
    Val t.length b (inve r s l) ∧ pc t b (inve r s l) = r.drop a ∧ inve t (-s) (inve r s l) = l.map clean ∧ siz (inve r s l) = - siz l
  | [], a, b, s, _, _, _, _, ht => ⟨trivial, by rw [inve, pc, ht, pc], rfl, rfl⟩
  | x :: l, a, b, s, h, ha, hs, hb, ht => by
    have h1 := h.1
    have h2 := h.2.1
    obtain ⟨x1, x2, x3⟩ := x
    obtain ⟨f, rfl⟩ : ∃ f : Nat, x1 = f := ⟨x1.toNat, by dsimp only at h1; omega⟩
    obtain ⟨e, rfl⟩ : ∃ e : Nat, x2 = e := ⟨x2.toNat, by dsimp only at h1; omega⟩
    dsimp only at h1 h2
    have hv : Val r.length e l := h.2.2
    rw [pc] at ht
    simp only [Int.toNat_natCast] at ht
    generalize hc : runes x3 = c at *
    have hl1 : ((r.drop a).take (f - a)).length = f - a := by rw [List.length_take, List.length_drop]; omega
    have hlen : t.length - b = (f - a) + c.length + (pc r e l).length := by
      have := congrArg List.length ht
      rw [List.length_drop, List.length_append, List.length_append, hl1] at this
      exact this
    have hf : (f : Int) + s = (b + (f - a) : Nat) := by omega
    have e1 : (t.drop b).take (f - a) = (r.drop a).take (f - a) := by
      rw [ht, List.append_assoc, List.take_append_of_le_length (by omega), List.take_of_length_le (by omega)]
    have e2 : t.drop (b + (f - a)) = c ++ pc r e l := by
      rw [← List.drop_drop, ht, List.append_assoc]
      conv => lhs; arg 1; rw [← hl1]
      rw [List.drop_left]
    have e3 : t.drop (b + (f - a) + c.length) = pc r e l := by rw [← List.drop_drop, e2, List.drop_left]
    have e4 : (t.drop (b + (f - a))).take c.length = c := by rw [e2, List.take_left]
    have hcl : nr ((f : Int), (e : Int), x3) = c.length := by unfold nr; rw [hc]
    have hd : dlt ((f : Int), (e : Int), x3) = c.length - ((e : Int) - f) := by unfold dlt; rw [hcl]
    obtain ⟨i1, i2, i3, i4⟩ := undo_all hr (t := t) (l := l) (a := e) (b := b + (f - a) + c.length) (s := s + dlt ((f : Int), (e : Int), x3)) hv (by omega) (by rw [hd]; omega) (by omega) e3
    have hbx : runes (txt ((r.drop f).take (e - f))) = (r.drop f).take (e - f) := runes_of fun z hz => hr z (List.mem_of_mem_drop (List.mem_of_mem_take hz))
    have hbl : ((r.drop f).take (e - f)).length = e - f := by rw [List.length_take, List.length_drop]; omega
    have hx' : invE r s ((f : Int), (e : Int), x3) = (((b + (f - a) : Nat) : Int), ((b + (f - a) + c.length : Nat) : Int), txt ((r.drop f).take (e - f))) := by
      unfold invE
      rw [hcl]
      simp only [Int.toNat_natCast]
      rw [hf]
      rfl
    have hnr' : nr (((b + (f - a) : Nat) : Int), ((b + (f - a) + c.length : Nat) : Int), txt ((r.drop f).take (e - f))) = e - f := by
      unfold nr
      dsimp only
      rw [hbx, hbl]
    have hd' : dlt (((b + (f - a) : Nat) : Int), ((b + (f - a) + c.length : Nat) : Int), txt ((r.drop f).take (e - f))) = - dlt ((f : Int), (e : Int), x3) := by
      rw [hd]
      unfold dlt
      rw [hnr']
      dsimp only
      omega
    refine ⟨?_, ?_, ?_, ?_⟩
    · rw [inve, hx']
      exact ⟨⟨by dsimp only; omega, by dsimp only; omega, by dsimp only; omega⟩, by dsimp only; omega, i1⟩
    · rw [inve, hx', pc]
      dsimp only
      rw [Int.toNat_natCast, Int.toNat_natCast, Nat.add_sub_cancel_left, e1, hbx, i2]
      have e5 : (r.drop f) = (r.drop f).take (e - f) ++ r.drop e := by
        conv => lhs; rw [← List.take_append_drop (e - f) (r.drop f)]
        rw [List.drop_drop]
        congr 2
        omega
      have e6 : r.drop a = (r.drop a).take (f - a) ++ r.drop f := by
        conv => lhs; rw [← List.take_append_drop (f - a) (r.drop a)]
        rw [List.drop_drop]
        congr 2
        omega
      rw [List.append_assoc, ← e5, ← e6]
    · rw [inve, hx', inve, hd', List.map_cons]
      have e7 : -s + - dlt ((f : Int), (e : Int), x3) = -(s + dlt ((f : Int), (e : Int), x3)) := by omega
      rw [e7, i3]
      congr 1
      unfold invE clean
      rw [hnr']
      dsimp only
      rw [Int.toNat_natCast, Int.toNat_natCast, Nat.add_sub_cancel_left, e4, hc]
      have a1 : ((b + (f - a) : Nat) : Int) + -s = f := by omega
      have a2 : (f : Int) + (e - f : Nat) = e := by omega
      rw [a1, a2]
    · rw [inve, hx', siz_cons, hd', i4, siz_cons]
      omega
/-- What was applied is undone. -/
theorem undo_batch {r : List Int} {l : List Ed} (hr : ∀ c ∈ r, okR c) (h : Val r.length 0 l) :
    Val (app r l).length 0 (inve r 0 l) ∧ app (app r l) (inve r 0 l) = r ∧ inve (app r l) 0 (inve r 0 l) = l.map clean ∧ siz (inve r 0 l) = - siz l := by
  have h1 := app_pc (r := r) (l := l) (a := 0) h (Nat.zero_le _)
  rw [List.take_zero, List.nil_append] at h1
  obtain ⟨i1, i2, i3, i4⟩ := undo_all hr (t := app r l) (l := l) (a := 0) (b := 0) (s := 0) h (Nat.zero_le _) rfl (Nat.zero_le _) (by rw [List.drop_zero, h1])
  refine ⟨i1, ?_, i3, i4⟩
  rw [app_pc (a := 0) i1 (Nat.zero_le _), List.take_zero, List.nil_append, i2, List.drop_zero]
end Go.Proofs.YtpjmmhbdondknaaDoor
