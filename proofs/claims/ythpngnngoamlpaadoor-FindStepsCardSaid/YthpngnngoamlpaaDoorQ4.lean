/- Ropes: places. Conditions: right pieces. Ropes: the byte of a place, a rune, breaks ahead; the place of a byte; the place behind a break. Conditions: right pieces. Ropes: the place of a byte; the place behind a break. Conditions: right pieces. -/
import Derived.Test.YthpngnngoamlpaaDoorQ2
namespace Go.Proofs.YthpngnngoamlpaaDoor
open Go Go.Lift Go.RowKit Go.Txt

/-- A spot: what is ahead of a piece, that piece, how many of its bytes are ahead. -/
def encSo (s : Su) (x : It) (b : Int) : List Value := encS s ++ (encT x ++ [.int .i64 b])
theorem encSo_one (s : Su) (x : It) (b : Int) : ∀ u ∈ encSo s x b, u.oneCell' = true := fun u hu => by
  rcases List.mem_append.1 hu with h | h
  · exact encS_one s u h
  · rcases List.mem_append.1 h with h | h
    · exact encT_ok.one x u h
    · simp at h; subst h; rfl
/-- The piece of a number; behind all, none. -/
def pN (ps : List (List Int)) (n : Nat) : List Int := (ps[n]?).getD []
/-! ## Runes of a text, one by one -/
theorem txt_at {l : List Int} (h : ∀ r ∈ l, okR r) {k : Nat} {r : Int} (hk : l[k]? = some r) : dl ((txt l).drop (txt (l.take k)).length) = (r.toNat, sz r) ∧ (txt (l.take (k + 1))).length = (txt (l.take k)).length + sz r ∧ (txt (l.take k)).length < (txt l).length := by
  have hlt := (List.getElem?_eq_some_iff.1 hk).1
  have e : l = l.take k ++ (r :: l.drop (k + 1)) := by
    have : l.drop k = r :: l.drop (k + 1) := by rw [List.drop_eq_getElem_cons hlt]; congr 1; exact (List.getElem?_eq_some_iff.1 hk).2
    rw [← this, List.take_append_drop]
  have hs := enc_len r
  refine ⟨?_, ?_, ?_⟩
  · have e2 : txt l = txt (l.take k) ++ (enc r ++ txt (l.drop (k + 1))) := by
      conv => lhs; rw [e]
      rw [txt_append, txt_cons]
    rw [e2, List.drop_left]
    exact dl_enc (h r (List.mem_of_getElem? hk)) _
  · rw [take_succ_of hk, txt_append, List.length_append]; unfold sz; rw [txt_cons, txt_nil, List.append_nil]
  · have e2 : (txt l).length = (txt (l.take k)).length + (sz r + (txt (l.drop (k + 1))).length) := by
      conv => lhs; rw [e]
      rw [txt_append, txt_cons, List.length_append, List.length_append]; rfl
    omega
/-- A place within a piece, or at the end. -/
structure Plc (ps : List (List Int)) (at_ : Int) (n k : Nat) : Prop where
  le : n ≤ ps.length
  eq : at_ = (ps.take n).flatten.length + k
  kl : k ≤ (pN ps n).length
  lt : n < ps.length → k < (pN ps n).length
theorem pN_some {ps : List (List Int)} {n : Nat} {p : List Int} (h : ps[n]? = some p) : pN ps n = p := by unfold pN; rw [h]; rfl
theorem pN_none {ps : List (List Int)} : pN ps ps.length = [] := by unfold pN; rw [List.getElem?_eq_none (Nat.le_refl _)]; rfl
theorem pN_ok {ps : List (List Int)} (hp : RpOk ps) (n : Nat) : ∀ r ∈ pN ps n, okR r := by
  cases h : ps[n]? with
  | none => unfold pN; rw [h]; simp
  | some p => rw [pN_some h]; exact (hp.ok p (List.mem_of_getElem? h)).ok
theorem pN_len {ps : List (List Int)} (hp : RpOk ps) (n : Nat) : (pN ps n).length ≤ 16 := by
  cases h : ps[n]? with
  | none => unfold pN; rw [h]; simp
  | some p => rw [pN_some h]; exact (hp.ok p (List.mem_of_getElem? h)).le
theorem flat_split {ps : List (List Int)} {n : Nat} (h : n ≤ ps.length) : ps.flatten = (ps.take n).flatten ++ (pN ps n ++ (ps.drop (n + 1)).flatten) := by
  rcases Nat.lt_or_ge n ps.length with hlt | hge
  · have hg : ps[n]? = some ps[n] := List.getElem?_eq_getElem hlt
    rw [pN_some hg, ← List.flatten_cons, ← List.flatten_append, ← List.drop_eq_getElem_cons hlt, List.take_append_drop]
  · obtain rfl : n = ps.length := by omega
    rw [pN_none, List.take_length, List.drop_eq_nil_of_le (by omega)]
    simp
theorem Plc.take {ps : List (List Int)} {at_ : Int} {n k : Nat} (h : Plc ps at_ n k) : 0 ≤ at_ ∧ at_ ≤ ps.flatten.length ∧ ps.flatten.take at_.toNat = (ps.take n).flatten ++ (pN ps n).take k ∧ (ps.flatten[at_.toNat]? = (pN ps n)[k]?) := by
  have he := h.eq
  have hs := flat_split h.le
  have hl := congrArg List.length hs
  rw [List.length_append, List.length_append] at hl
  have hk := h.kl
  have ha : at_.toNat = (ps.take n).flatten.length + k := by omega
  refine ⟨by omega, by omega, ?_, ?_⟩
  · rw [ha]
    conv => lhs; rw [hs]
    rw [List.take_length_add_append, List.take_append_of_le_length hk]
  · rw [ha]
    conv => lhs; rw [hs]
    rw [List.getElem?_append_right (Nat.le_add_right _ _), Nat.add_sub_cancel_left]
    rcases Nat.lt_or_ge n ps.length with hlt | hge
    · exact List.getElem?_append_left (h.lt hlt)
    · obtain rfl : n = ps.length := by have := h.le; omega
      rw [List.drop_eq_nil_of_le (by omega), List.flatten_nil, List.append_nil]
theorem fnd_plc {ps : List (List Int)} {at_ : Int} {n : Nat} (hp : RpOk ps) (h0 : 0 ≤ at_) (h1 : at_ ≤ ps.flatten.length) (hf : Fnd (ps.map itP) 1 at_ 1 n) (hn : n ≤ ps.length) : ∃ k, Plc ps at_ n k := by
  have hz : ∀ i, i ≤ ps.length → szA (ps.map itP) 1 i = (ps.take i).flatten.length := fun i hi => by
    unfold szA; rw [hp.sums hi]; rfl
  have hlow : ((ps.take n).flatten.length : Int) ≤ at_ := by
    rcases Nat.eq_zero_or_pos n with rfl | hpos
    · simpa using h0
    · have := hf.no (n - 1) (by omega)
      rw [Nat.sub_add_cancel hpos, hz n hn] at this
      unfold Rch at this
      omega
  rcases Nat.lt_or_ge n ps.length with hlt | hge
  · have hg : ps[n]? = some ps[n] := List.getElem?_eq_getElem hlt
    have hy := hf.yes (by rw [List.length_map]; exact hlt)
    rw [hz (n + 1) (by omega), take_succ_of hg, List.flatten_append, List.length_append] at hy
    rw [← pN_some hg] at hy
    simp only [List.flatten_cons, List.flatten_nil, List.append_nil] at hy
    unfold Rch at hy
    exact ⟨(at_ - (ps.take n).flatten.length).toNat, hn, by omega, by omega, fun _ => by omega⟩
  · obtain rfl : n = ps.length := by omega
    rw [List.take_length] at hlow
    exact ⟨0, Nat.le_refl _, by rw [List.take_length]; omega, by omega, fun h => by omega⟩
theorem ask_place {ps : List (List Int)} {at_ bias : Int} (hp : RpOk ps) (hb : bias = 0 ∨ bias = 1) : Ask (ps.map itP) 1 at_ bias ↔ 0 ≤ at_ ∧ at_ ≤ ps.flatten.length := by
  unfold Ask
  rw [hp.sum]
  have hz : szD (sP ps) 1 = ps.flatten.length := rfl
  rw [hz]
  constructor
  · rintro ⟨_, _, h1, h2, _⟩
    exact ⟨h1, h2⟩
  · rintro ⟨h1, h2⟩
    exact ⟨by decide, by decide, h1, h2, hb⟩
end Go.Proofs.YthpngnngoamlpaaDoor
namespace Go.Proofs.YthpngnngoamlpaaDoor
open Go Go.Lift Go.RowKit Go.Txt

theorem pre_le {ps : List (List Int)} (hp : RpOk ps) {n : Nat} (hn : n ≤ ps.length) : (ps.take n).flatten.length ≤ 20000 ∧ (txt (ps.take n).flatten).length ≤ 80000 ∧ nls (ps.take n).flatten ≤ 20000 := by
  have h1 := congrArg List.length (flat_split hn)
  rw [List.length_append] at h1
  have h2 := hp.le
  have h3 := txt_len (ps.take n).flatten
  have h4 := nls_le (ps.take n).flatten
  omega
theorem ten_ne {n : Nat} (h1 : 128 ≤ n) (h2 : n < 256) : (UInt8.ofNat n == (10 : UInt8)) = false := by
  rw [beq_eq_false_iff_ne]
  intro e
  have := congrArg UInt8.toNat e
  rw [ofNat_toNat h2] at this
  simp at this
  omega
theorem count_enc {r : Int} (hr : okR r) : (enc r).count 10 = if r == 10 then 1 else 0 := by
  have h' := hr
  unfold okR at h'
  rcases enc_cases hr with ⟨h1, e⟩ | ⟨h1, h2, e⟩ | ⟨h1, h2, e⟩ | ⟨h1, e⟩
  · rw [e, List.count_singleton]
    have : (UInt8.ofNat r.toNat == (10 : UInt8)) = (r == 10) := by
      rw [Bool.eq_iff_iff, beq_iff_eq, beq_iff_eq]
      constructor
      · intro e2
        have := congrArg UInt8.toNat e2
        rw [ofNat_toNat (by omega)] at this
        simp at this
        omega
      · rintro rfl; rfl
    rw [this]
  · rw [e, if_neg (by simp; omega)]
    simp only [List.count_cons, List.count_nil, ten_ne (show 128 ≤ 192 + r.toNat / 64 by omega) (by omega), ten_ne (show 128 ≤ 128 + r.toNat % 64 by omega) (by omega)]
    rfl
  · rw [e, if_neg (by simp; omega)]
    simp only [List.count_cons, List.count_nil, ten_ne (show 128 ≤ 224 + r.toNat / 4096 by omega) (by omega), ten_ne (show 128 ≤ 128 + r.toNat / 64 % 64 by omega) (by omega), ten_ne (show 128 ≤ 128 + r.toNat % 64 by omega) (by omega)]
    rfl
  · rw [e, if_neg (by simp; omega)]
    simp only [List.count_cons, List.count_nil, ten_ne (show 128 ≤ 240 + r.toNat / 262144 by omega) (by omega), ten_ne (show 128 ≤ 128 + r.toNat / 4096 % 64 by omega) (by omega), ten_ne (show 128 ≤ 128 + r.toNat / 64 % 64 by omega) (by omega), ten_ne (show 128 ≤ 128 + r.toNat % 64 by omega) (by omega)]
    rfl
/-- Breaks in bytes. -/
theorem count_txt {l : List Int} (h : ∀ r ∈ l, okR r) : Lib.countByte (txt l) 10 = nls l := by
  induction l with
  | nil => rfl
  | cons r l ih =>
    have hr := h r (List.mem_cons_self ..)
    have ih := ih fun x hx => h x (List.mem_cons_of_mem _ hx)
    unfold Lib.countByte at ih ⊢
    rw [txt_cons, List.count_append, ih, count_enc hr]
    unfold nls
    rw [List.countP_cons]
    omega
theorem txt_take (p : List Int) (k : Nat) : (txt p).take (txt (p.take k)).length = txt (p.take k) := by
  conv => lhs; arg 2; rw [← List.take_append_drop k p]
  rw [txt_append, List.take_left]
end Go.Proofs.YthpngnngoamlpaaDoor
namespace Go.Proofs.YthpngnngoamlpaaDoor
open Go Go.Lift Go.RowKit Go.Txt

theorem txt_mono (l : List Int) {a b : Nat} (h : a ≤ b) : (txt (l.take a)).length ≤ (txt (l.take b)).length := by
  have e : l.take a = (l.take b).take a := by rw [List.take_take, Nat.min_eq_left h]
  rw [e]
  have := congrArg List.length (txt_take (l.take b) a)
  rw [List.length_take] at this
  omega
theorem flat_take {ps : List (List Int)} {n j : Nat} (hn : n ≤ ps.length) (hj : j ≤ (pN ps n).length) : ps.flatten.take ((ps.take n).flatten.length + j) = (ps.take n).flatten ++ (pN ps n).take j := by
  conv => lhs; rw [flat_split hn]
  rw [List.take_length_add_append, List.take_append_of_le_length hj]
theorem ask_dim {ps : List (List Int)} {v bias : Int} (hp : RpOk ps) {dim : Int} (h0 : 0 ≤ dim) (h2 : dim ≤ 2) (hb : bias = 0 ∨ bias = 1) : Ask (ps.map itP) dim v bias ↔ 0 ≤ v ∧ v ≤ szD (sP ps) dim := by
  unfold Ask
  rw [hp.sum]
  constructor
  · rintro ⟨_, _, h1, h2, _⟩; exact ⟨h1, h2⟩
  · rintro ⟨h1, h3⟩; exact ⟨h0, by omega, h1, h3, hb⟩
/-- The answers for the place of a byte. -/
def RunAt (l : List Int) (at_ : Int) (m e : Int) : Prop :=
  (∃ k : Nat, k ≤ l.length ∧ at_ = (txt (l.take k)).length ∧ m = k ∧ e = 0) ∨
  (0 ≤ at_ ∧ at_ ≤ (txt l).length ∧ (∀ k : Nat, k ≤ l.length → at_ ≠ (txt (l.take k)).length) ∧ m = 0 ∧ e = 70) ∨
  (¬ (0 ≤ at_ ∧ at_ ≤ (txt l).length) ∧ m = 0 ∧ e = 1)
end Go.Proofs.YthpngnngoamlpaaDoor
