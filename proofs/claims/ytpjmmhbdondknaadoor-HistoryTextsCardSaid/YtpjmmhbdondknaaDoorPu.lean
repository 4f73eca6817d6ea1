/- Loops with an invariant that has an index, which falls. No conditions. Texts as bytes and runes: what decoding and encoding give. Plain; no program, no conditions. Laws for operations on texts: length, a byte, parts, both in one, compared, from runes and bytes, gone through. Conditions: the types' facts. -/
import Derived.Test.YtpjmmhbdondknaaDoorRs4
import Derived.Laws.RangeString
import Derived.Laws.Runes
import Derived.Laws.Strings2
import Derived.Laws.Slices
import Derived.Laws.Concat
import Derived.Laws.BytesArg
import Derived.Lib.AppendStr
namespace Go.Lift
open Go
theorem least_ex {p : Nat → Prop} : ∀ n, p n → ∃ m, p m ∧ ∀ k, k < m → ¬ p k := by
  intro n
  induction n using Nat.strongRecOn with
  | ind n ih =>
    intro h
    by_cases h2 : ∃ k, k < n ∧ p k
    · obtain ⟨k, hk, hp⟩ := h2; exact ih k hk hp
    · exact ⟨n, h, fun k hk hp => h2 ⟨k, hk, hp⟩⟩
open Classical in
noncomputable def least (p : Nat → Prop) : Nat := if h : ∃ n, p n then Classical.choose (least_ex _ h.choose_spec) else 0
theorem least_is {p : Nat → Prop} (h : ∃ n, p n) : p (least p) := by
  unfold least; rw [dif_pos h]; exact (Classical.choose_spec (least_ex _ h.choose_spec)).1
theorem least_le {p : Nat → Prop} {n : Nat} (h : p n) : least p ≤ n := by
  have hx : ∃ n, p n := ⟨n, h⟩
  unfold least; rw [dif_pos hx]
  refine Nat.le_of_not_lt fun hlt => (Classical.choose_spec (least_ex _ hx.choose_spec)).2 n hlt h
theorem LoopS.ix {init : List Value} {n k : Nat} {w : World} {B : List Value → List Value → World → (List Value → World → Prop) → Prop} (J : Nat → List Value → World → Prop) (h0 : ∃ i, J i init w)
    (h : ∀ i us vs w, J i us w → B us vs w (fun us' w' => ∃ j, j < i ∧ J j us' w')) : LoopS init n k w B := by
  refine LoopS.intro (fun us w => ∃ i, J i us w) (fun us w => least fun i => J i us w) h0 ?_
  intro us vs w hj
  have e : (fun us' w' => (∃ i, J i us' w') ∧ (least fun i => J i us' w') < least fun i => J i us w) = fun us' w' => ∃ j, j < (least fun i => J i us w) ∧ J j us' w' := by
    funext us' w'
    apply propext
    constructor
    · rintro ⟨h1, h2⟩; exact ⟨_, h2, least_is h1⟩
    · rintro ⟨j, h1, h2⟩; exact ⟨⟨j, h2⟩, Nat.lt_of_le_of_lt (least_le h2) h1⟩
  rw [e]
  exact h _ us vs w (least_is hj)
end Go.Lift
namespace Go.Lift
open Go Go.RowKit
theorem run_bool_eq {P : Program} {T : TypeId} {w : World} (hT : P.underlying T = some .bool) (a b : Bool) : (Op.equalIn 10000 T (.bool a) (.bool b)).run P w = .ok (a == b) w := run_equalIn_bool w 9999 T a b hT
theorem sBin_boolEq {P : Program} {T : TypeId} {w : World} {K : K1} {cx cy : Bool} (hT : P.underlying T = some .bool) (a b : Bool) : sBin P .eql T cx cy (.bool a) (.bool b) w K = K (.bool (a == b)) w := by
  have hr : (do eqGuard .eql T (bif cx then .const (.bool a) else .tmp 0) (bif cy then .const (.bool b) else .tmp 0) (.bool a) (.bool b); binOp .eql T (.bool a) (.bool b) : Sem Value).run P w = .ok (.bool (a == b)) w := by
    have hg : eqGuard .eql T (bif cx then .const (.bool a) else .tmp 0) (bif cy then .const (.bool b) else .tmp 0) (.bool a) (.bool b) = pure () := rfl
    have hb : binOp .eql T (.bool a) (.bool b) = (do pure (.bool (← Op.equal T (.bool a) (.bool b)))) := rfl
    rw [hg, hb, Sem.run_bind, Sem.run_pure, Result.andThen_ok, Sem.run_bind]
    unfold Op.equal Op.maxDepth
    rw [run_bool_eq hT]
    rfl
  unfold sBin after
  rw [hr]
theorem sBin_boolNe {P : Program} {T : TypeId} {w : World} {K : K1} {cx cy : Bool} (hT : P.underlying T = some .bool) (a b : Bool) : sBin P .neq T cx cy (.bool a) (.bool b) w K = K (.bool (!(a == b))) w := by
  have hr : (do eqGuard .neq T (bif cx then .const (.bool a) else .tmp 0) (bif cy then .const (.bool b) else .tmp 0) (.bool a) (.bool b); binOp .neq T (.bool a) (.bool b) : Sem Value).run P w = .ok (.bool (!(a == b))) w := by
    have hg : eqGuard .neq T (bif cx then .const (.bool a) else .tmp 0) (bif cy then .const (.bool b) else .tmp 0) (.bool a) (.bool b) = pure () := rfl
    have hb : binOp .neq T (.bool a) (.bool b) = (do pure (.bool (!(← Op.equal T (.bool a) (.bool b))))) := rfl
    rw [hg, hb, Sem.run_bind, Sem.run_pure, Result.andThen_ok, Sem.run_bind]
    unfold Op.equal Op.maxDepth
    rw [run_bool_eq hT]
    rfl
  unfold sBin after
  rw [hr]
end Go.Lift
namespace Go.Txt
open Go

/-- A byte of a list; behind it, 0. -/
def by_ (bs : List UInt8) (k : Nat) : Nat := (bs[k]?.getD 0).toNat
theorem by_lt (bs : List UInt8) (k : Nat) : by_ bs k < 256 := UInt8.toNat_lt _
def cont (bs : List UInt8) (k : Nat) : Prop := k < bs.length ∧ by_ bs k / 64 = 2
instance (bs : List UInt8) (k : Nat) : Decidable (cont bs k) := by unfold cont; infer_instance
def okR (r : Int) : Prop := (0 ≤ r ∧ r < 55296) ∨ (57344 ≤ r ∧ r ≤ 1114111)
instance (r : Int) : Decidable (okR r) := by unfold okR; infer_instance
/-- The first rune, and its width. -/
def dl (bs : List UInt8) : Nat × Nat :=
  let b0 := by_ bs 0
  if b0 < 128 then (b0, 1)
  else if b0 / 32 = 6 ∧ cont bs 1 then
    let c := (b0 % 32) * 64 + by_ bs 1 % 64
    if 128 ≤ c then (c, 2) else (65533, 1)
  else if b0 / 16 = 14 ∧ cont bs 1 ∧ cont bs 2 then
    let c := (b0 % 16) * 4096 + (by_ bs 1 % 64) * 64 + by_ bs 2 % 64
    if 2048 ≤ c ∧ okR c then (c, 3) else (65533, 1)
  else if b0 / 8 = 30 ∧ cont bs 1 ∧ cont bs 2 ∧ cont bs 3 then
    let c := (b0 % 8) * 262144 + (by_ bs 1 % 64) * 4096 + (by_ bs 2 % 64) * 64 + by_ bs 3 % 64
    if 65536 ≤ c ∧ okR c then (c, 4) else (65533, 1)
  else (65533, 1)
theorem valid_iff (r : Int) : Utf8.valid r = true ↔ okR r := by
  unfold Utf8.valid okR
  simp only [Bool.or_eq_true, Bool.and_eq_true, decide_eq_true_eq]
theorem get_by (s : ByteArray) (p k : Nat) : (s.get! (p + k)).toNat = by_ (s.data.toList.drop p) k := by
  unfold by_
  rw [List.getElem?_drop, Array.getElem?_toList]
  have : s.get! (p + k) = s.data[p + k]! := rfl
  rw [this, getElem!_def]
  cases s.data[p + k]? <;> rfl
theorem decode_dl (s : ByteArray) (p : Nat) : Utf8.decode s p = dl (s.data.toList.drop p) := by
  have hc : ∀ k, (p + k < s.size ∧ by_ (s.data.toList.drop p) k / 64 = 2) = cont (s.data.toList.drop p) k := by
    intro k
    have e1 : s.size = s.data.toList.length := rfl
    apply propext
    simp only [cont, List.length_drop, e1]
    omega
  have hv : ∀ c : Nat, Utf8.valid c = decide (okR c) := fun c => by
    rw [Bool.eq_iff_iff, decide_eq_true_eq]; exact valid_iff c
  unfold Utf8.decode dl
  simp only [get_by, hv, Utf8.runeError, Bool.and_eq_true, decide_eq_true_eq, beq_iff_eq, ge_iff_le]
  simp only [hc, and_assoc]
theorem dl_width (bs : List UInt8) (h : bs ≠ []) : 1 ≤ (dl bs).2 ∧ (dl bs).2 ≤ bs.length ∧ (dl bs).2 ≤ 4 := by
  have h0 : 1 ≤ bs.length := by cases bs with | nil => exact absurd rfl h | cons _ _ => simp
  unfold dl
  dsimp only
  split
  · exact ⟨by simp, h0, by simp⟩
  split
  · rename_i h1
    have := h1.2.1
    split
    · exact ⟨by simp, by dsimp only; omega, by simp⟩
    · exact ⟨by simp, h0, by simp⟩
  split
  · rename_i h1
    have := h1.2.2.1
    split
    · exact ⟨by simp, by dsimp only; omega, by simp⟩
    · exact ⟨by simp, h0, by simp⟩
  split
  · rename_i h1
    have := h1.2.2.2.1
    split
    · exact ⟨by simp, by dsimp only; omega, by simp⟩
    · exact ⟨by simp, h0, by simp⟩
  · exact ⟨by simp, h0, by simp⟩
theorem dl_ok (bs : List UInt8) : okR (dl bs).1 := by
  have b0 := by_lt bs 0
  have b1 := by_lt bs 1
  unfold dl
  dsimp only
  split
  · left; dsimp only; omega
  split
  · split
    · left; dsimp only; omega
    · right; decide
  split
  · split
    · rename_i h; exact h.2
    · right; decide
  split
  · split
    · rename_i h; exact h.2
    · right; decide
  · right; decide
/-- The runes of bytes. -/
def runes (bs : List UInt8) : List Int := if _h : bs = [] then [] else ((dl bs).1 : Int) :: runes (bs.drop (dl bs).2)
termination_by bs.length
decreasing_by
  have h1 := dl_width bs ‹_›
  rw [List.length_drop]
  omega
theorem runes_nil : runes [] = [] := by rw [runes]; rfl
theorem runes_cons {bs : List UInt8} (h : bs ≠ []) : runes bs = ((dl bs).1 : Int) :: runes (bs.drop (dl bs).2) := by rw [runes, dif_neg h]
theorem runes_ok (bs : List UInt8) : ∀ c ∈ runes bs, okR c := by
  induction hn : bs.length using Nat.strongRecOn generalizing bs with
  | ind n ih =>
    intro c hc
    by_cases h : bs = []
    · subst h; rw [runes_nil] at hc; cases hc
    · rw [runes_cons h] at hc
      have hw := dl_width bs h
      rcases List.mem_cons.1 hc with rfl | hc
      · exact dl_ok bs
      · exact ih _ (by rw [List.length_drop]; omega) _ rfl c hc
theorem runes_len (bs : List UInt8) : (runes bs).length ≤ bs.length := by
  induction hn : bs.length using Nat.strongRecOn generalizing bs with
  | ind n ih =>
    by_cases h : bs = []
    · subst h; rw [runes_nil]; simp
    · rw [runes_cons h]
      have hw := dl_width bs h
      have := ih _ (by rw [List.length_drop]; omega) (bs.drop (dl bs).2) rfl
      rw [List.length_drop] at this
      rw [List.length_cons]; omega

/-- The bytes of a rune. -/
def enc (r : Int) : List UInt8 := (Utf8.encode r).data.toList
def norm (r : Int) : Int := if okR r then r else 65533
theorem norm_ok {r : Int} (h : okR r) : norm r = r := if_pos h
theorem ok_norm (r : Int) : okR (norm r) := by unfold norm; split; assumption; right; decide
theorem enc_norm (r : Int) : enc (norm r) = enc r := by
  unfold norm
  split
  · rfl
  · rename_i h
    have h1 : Utf8.valid r = false := by rw [← Bool.not_eq_true, valid_iff]; exact h
    unfold enc Utf8.encode
    rw [h1]
    rfl
/-- How many bytes. -/
def sz (r : Int) : Nat := (enc r).length
theorem enc_cases {r : Int} (h : okR r) : (r < 128 ∧ enc r = [UInt8.ofNat r.toNat]) ∨ (128 ≤ r ∧ r < 2048 ∧ enc r = [UInt8.ofNat (192 + r.toNat / 64), UInt8.ofNat (128 + r.toNat % 64)]) ∨
    (2048 ≤ r ∧ r < 65536 ∧ enc r = [UInt8.ofNat (224 + r.toNat / 4096), UInt8.ofNat (128 + r.toNat / 64 % 64), UInt8.ofNat (128 + r.toNat % 64)]) ∨
    (65536 ≤ r ∧ enc r = [UInt8.ofNat (240 + r.toNat / 262144), UInt8.ofNat (128 + r.toNat / 4096 % 64), UInt8.ofNat (128 + r.toNat / 64 % 64), UInt8.ofNat (128 + r.toNat % 64)]) := by
  have hv := (valid_iff r).2 h
  have h0 : 0 ≤ r := by unfold okR at h; omega
  unfold enc Utf8.encode
  rw [hv]
  dsimp only
  simp only [if_true]
  by_cases h1 : r < 128
  · left; rw [if_pos (by omega)]; exact ⟨h1, rfl⟩
  right
  rw [if_neg (by omega)]
  by_cases h2 : r < 2048
  · left; rw [if_pos (by omega)]; exact ⟨by omega, h2, rfl⟩
  right
  rw [if_neg (by omega)]
  by_cases h3 : r < 65536
  · left; rw [if_pos (by omega)]; exact ⟨by omega, h3, rfl⟩
  right
  rw [if_neg (by omega)]
  exact ⟨by omega, rfl⟩
theorem enc_len (r : Int) : 1 ≤ sz r ∧ sz r ≤ 4 := by
  have := enc_cases (ok_norm r)
  unfold sz
  rw [← enc_norm r]
  rcases this with ⟨_, h⟩ | ⟨_, _, h⟩ | ⟨_, _, h⟩ | ⟨_, h⟩ <;> rw [h] <;> simp
theorem ofNat_toNat {n : Nat} (h : n < 256) : (UInt8.ofNat n).toNat = n := by
  rw [UInt8.toNat_ofNat']; omega
theorem dl_enc {r : Int} (h : okR r) (bs : List UInt8) : dl (enc r ++ bs) = (r.toNat, sz r) := by
  have h' := h
  unfold okR at h'
  unfold sz
  rcases enc_cases h with ⟨h1, e⟩ | ⟨h1, h2, e⟩ | ⟨h1, h2, e⟩ | ⟨h1, e⟩
  · have y0 : by_ (enc r ++ bs) 0 = r.toNat := by rw [e]; exact ofNat_toNat (by omega)
    unfold dl
    dsimp only
    rw [y0, if_pos (by omega), e]
    rfl
  · have y0 : by_ (enc r ++ bs) 0 = 192 + r.toNat / 64 := by rw [e]; exact ofNat_toNat (by omega)
    have y1 : by_ (enc r ++ bs) 1 = 128 + r.toNat % 64 := by rw [e]; exact ofNat_toNat (by omega)
    have hl : (enc r ++ bs).length = 2 + bs.length := by rw [e]; simp; omega
    have c1 : cont (enc r ++ bs) 1 := ⟨by omega, by rw [y1]; omega⟩
    unfold dl
    dsimp only
    rw [y0, y1, if_neg (by omega), if_pos ⟨by omega, c1⟩, if_pos (by omega), e]
    exact Prod.ext (by dsimp only; omega) rfl
  · have y0 : by_ (enc r ++ bs) 0 = 224 + r.toNat / 4096 := by rw [e]; exact ofNat_toNat (by omega)
    have y1 : by_ (enc r ++ bs) 1 = 128 + r.toNat / 64 % 64 := by rw [e]; exact ofNat_toNat (by omega)
    have y2 : by_ (enc r ++ bs) 2 = 128 + r.toNat % 64 := by rw [e]; exact ofNat_toNat (by omega)
    have hl : (enc r ++ bs).length = 3 + bs.length := by rw [e]; simp; omega
    have c1 : cont (enc r ++ bs) 1 := ⟨by omega, by rw [y1]; omega⟩
    have c2 : cont (enc r ++ bs) 2 := ⟨by omega, by rw [y2]; omega⟩
    unfold dl
    dsimp only
    have hc : (224 + r.toNat / 4096) % 16 * 4096 + (128 + r.toNat / 64 % 64) % 64 * 64 + (128 + r.toNat % 64) % 64 = r.toNat := by omega
    rw [y0, y1, y2, if_neg (by omega), if_neg (by omega), if_pos ⟨by omega, c1, c2⟩, hc, if_pos ⟨by omega, by rw [Int.toNat_of_nonneg (by omega)]; exact h⟩, e]
    rfl
  · have y0 : by_ (enc r ++ bs) 0 = 240 + r.toNat / 262144 := by rw [e]; exact ofNat_toNat (by omega)
    have y1 : by_ (enc r ++ bs) 1 = 128 + r.toNat / 4096 % 64 := by rw [e]; exact ofNat_toNat (by omega)
    have y2 : by_ (enc r ++ bs) 2 = 128 + r.toNat / 64 % 64 := by rw [e]; exact ofNat_toNat (by omega)
    have y3 : by_ (enc r ++ bs) 3 = 128 + r.toNat % 64 := by rw [e]; exact ofNat_toNat (by omega)
    have hl : (enc r ++ bs).length = 4 + bs.length := by rw [e]; simp; omega
    have c1 : cont (enc r ++ bs) 1 := ⟨by omega, by rw [y1]; omega⟩
    have c2 : cont (enc r ++ bs) 2 := ⟨by omega, by rw [y2]; omega⟩
    have c3 : cont (enc r ++ bs) 3 := ⟨by omega, by rw [y3]; omega⟩
    unfold dl
    dsimp only
    have hc : (240 + r.toNat / 262144) % 8 * 262144 + (128 + r.toNat / 4096 % 64) % 64 * 4096 + (128 + r.toNat / 64 % 64) % 64 * 64 + (128 + r.toNat % 64) % 64 = r.toNat := by omega
    rw [y0, y1, y2, y3, if_neg (by omega), if_neg (by omega), if_neg (by omega), if_pos ⟨by omega, c1, c2, c3⟩, hc, if_pos ⟨by omega, by rw [Int.toNat_of_nonneg (by omega)]; exact h⟩, e]
    rfl
/-- The bytes of runes. -/
def txt (l : List Int) : List UInt8 := l.flatMap enc
theorem txt_nil : txt [] = [] := rfl
theorem txt_cons (r : Int) (l : List Int) : txt (r :: l) = enc r ++ txt l := rfl
theorem txt_append (a b : List Int) : txt (a ++ b) = txt a ++ txt b := List.flatMap_append ..
theorem enc_ne (r : Int) : enc r ≠ [] := fun h => by have := (enc_len r).1; unfold sz at this; rw [h] at this; simp at this
theorem runes_txt {l : List Int} (h : ∀ r ∈ l, okR r) (bs : List UInt8) : runes (txt l ++ bs) = l ++ runes bs := by
  induction l with
  | nil => rfl
  | cons r l ih =>
    have hr := h r (List.mem_cons_self ..)
    rw [txt_cons, List.append_assoc, runes_cons (by simp [enc_ne]), dl_enc hr]
    dsimp only
    unfold sz
    rw [List.drop_left, ih (fun x hx => h x (List.mem_cons_of_mem _ hx)), Int.toNat_of_nonneg (by unfold okR at hr; omega)]
    rfl
theorem runes_of {l : List Int} (h : ∀ r ∈ l, okR r) : runes (txt l) = l := by
  have := runes_txt h []
  rwa [List.append_nil, runes_nil, List.append_nil] at this
end Go.Txt
namespace Go.Lift
open Go Go.RowKit Go.Txt Go.Lib

/-- A text, by its bytes. -/
abbrev tv (l : List UInt8) : Value := .string ⟨l.toArray⟩
theorem tv_of (s : ByteArray) : Value.string s = tv s.data.toList := by
  cases s; rfl
theorem tv_inj {a b : List UInt8} (h : tv a = tv b) : a = b := by
  simpa using h
theorem size_tv (l : List UInt8) : (⟨l.toArray⟩ : ByteArray).size = l.length := by simp [ByteArray.size]
section
variable {P : Program} {T : TypeId} {w : World} {K : K1}
theorem sLen_str {ty : Nat} {l : List UInt8} (hT : P.underlying T = some .string) : sBuiltin P .len [T] ty [tv l] w K = K (.int .i64 l.length) w := by
  simp [sBuiltin, after, Builtin.len_, run_underlying hT, goInt, size_tv]
theorem sIdx_str {l : List UInt8} {k : IntKind} {z : Int} {i : Nat} {b : UInt8} (hT : P.underlying T = some .string) (hb : l[i]? = some b) (hz : z = i) : sIdx P T (tv l) (.int k z) w K = K (.int .u8 b.toNat) w := by
  subst hz
  obtain ⟨hi, he⟩ := List.getElem?_eq_some_iff.1 hb
  have hr : (Instr.index T (tv l) (.int k i)).run P w = .ok (.int .u8 b.toNat) w := by
    rw [run_index_string w T _ k i hT, dif_pos ⟨by omega, by rw [size_tv]; omega⟩]
    congr 3
    rw [← he]
    show (l.toArray[(i : Int).toNat]'_).toNat = _
    simp
  unfold sIdx after
  rw [hr]
theorem sSlice_str {l : List UInt8} {k k' : IntKind} {zl zh : Int} {lo hi : Nat} (hT : P.underlying T = some .string) (hl : zl = lo) (hh : zh = hi) (h1 : lo ≤ hi) (h2 : hi ≤ l.length) :
    sSlice P T (tv l) (some (.int k zl)) (some (.int k' zh)) none w K = K (tv ((l.drop lo).take (hi - lo))) w := by
  subst hl hh
  have hr := run_slice_string (P := P) w T ⟨l.toArray⟩ k k' lo hi hT (by omega) (by omega) (by rw [size_tv]; omega)
  simp [sSlice, after, Instr.sliceAt, run_underlying hT, hr, ByteArray.extract_mk]
theorem sSlice_strh {l : List UInt8} {k : IntKind} {zh : Int} {hi : Nat} (hT : P.underlying T = some .string) (hh : zh = hi) (h2 : hi ≤ l.length) : sSlice P T (tv l) none (some (.int k zh)) none w K = K (tv (l.take hi)) w := by
  subst hh
  have hr := run_slice_string_h (P := P) w T ⟨l.toArray⟩ hT k hi (by omega) (by rw [size_tv]; omega)
  simp [sSlice, after, Instr.sliceAt, run_underlying hT, hr, ByteArray.extract_mk]
theorem sSlice_strl {l : List UInt8} {k : IntKind} {zl : Int} {lo : Nat} (hT : P.underlying T = some .string) (hl : zl = lo) (h2 : lo ≤ l.length) : sSlice P T (tv l) (some (.int k zl)) none none w K = K (tv (l.drop lo)) w := by
  subst hl
  have hr := run_slice_string_l (P := P) w T ⟨l.toArray⟩ hT k lo (by omega) (by rw [size_tv]; omega)
  have e : (l.drop lo).take ((⟨l.toArray⟩ : ByteArray).size - lo) = l.drop lo := by
    rw [size_tv]; exact List.take_of_length_le (by rw [List.length_drop]; exact Nat.le_refl _)
  simp only [sSlice, after, Instr.sliceAt, Sem.run_bind, run_underlying hT, hr, Result.andThen_ok, ByteArray.extract_mk, Int.toNat_natCast, e]
theorem sBin_strAdd {cx cy : Bool} {a b : List UInt8} (h : a.length + b.length ≤ 9223372036854775807) : sBin P .add T cx cy (tv a) (tv b) w K = K (tv (a ++ b)) w := by
  have h1 := run_string_add_sum (P := P) (w := w) ⟨a.toArray⟩ ⟨b.toArray⟩ (by rw [size_tv, size_tv]; exact h)
  have h2 : (⟨a.toArray⟩ ++ ⟨b.toArray⟩ : ByteArray) = ⟨(a ++ b).toArray⟩ := by
    apply ByteArray.ext; simp [ByteArray.data_append]
  rw [h2] at h1
  have hg : ∀ x y : Operand, (eqGuard .add T x y (tv a) (tv b)).run P w = .ok () w := fun x y => by simp [eqGuard]
  unfold sBin after
  rw [Sem.run_bind, hg, Result.andThen_ok, binOp_string_add, h1]
theorem toList_tv (a : List UInt8) : (⟨a.toArray⟩ : ByteArray).toList = a := by
  rw [ByteArray.toList_eq]
theorem sBin_strEq {cx cy : Bool} {a b : List UInt8} : sBin P .eql T cx cy (tv a) (tv b) w K = K (.bool (decide (a = b))) w := by
  have hg : ∀ x y : Operand, (eqGuard .eql T x y (tv a) (tv b)).run P w = .ok () w := fun x y => by simp [eqGuard]
  unfold sBin after
  rw [Sem.run_bind, hg, Result.andThen_ok, binOp_string_eql, Sem.run_pure, toList_tv, toList_tv]
  dsimp only
  congr 2
  rw [Bool.eq_iff_iff, beq_iff_eq, decide_eq_true_eq]
theorem sBin_strNe {cx cy : Bool} {a b : List UInt8} : sBin P .neq T cx cy (tv a) (tv b) w K = K (.bool (!decide (a = b))) w := by
  have hg : ∀ x y : Operand, (eqGuard .neq T x y (tv a) (tv b)).run P w = .ok () w := fun x y => by simp [eqGuard]
  unfold sBin after
  rw [Sem.run_bind, hg, Result.andThen_ok, binOp_string_neq, Sem.run_pure, toList_tv, toList_tv]
  dsimp only
  congr 3
  rw [Bool.eq_iff_iff, beq_iff_eq, decide_eq_true_eq]
theorem sConv_rune {s d : TypeId} {k : IntKind} {n : Int} (hs : (P.underlying s).isSome = true) (hd : P.underlying d = some .string) : sConv P s d (.int k n) w K = K (tv (enc n)) w := by
  have e : (Value.string (Utf8.encode n)) = tv (enc n) := tv_of _
  unfold sConv after
  rw [run_convert_int_string w s d k n hs hd, e]
abbrev encB (b : UInt8) : List Value := [.int .u8 b.toNat]
theorem encB_ok : Enc encB 1 := ⟨fun _ => rfl, fun x u hu => by simp at hu; subst hu; rfl⟩
theorem sConv_bytes {s d e : TypeId} {v : Value} {bs : List UInt8} (hs : P.underlying s = some (.slice e)) (he : P.underlying e = some (.int .u8)) (hd : P.underlying d = some .string) (h : Sl w v 1 encB bs) : sConv P s d v w K = K (tv bs) w := by
  obtain ⟨a, cap, rfl, g1, g2, g3⟩ := h
  unfold sConv after
  cases a with
  | none =>
    have hb : bs = [] := by
      cases bs with
      | nil => rfl
      | cons y ys => obtain ⟨b, o, hb, _⟩ := g3 0 y rfl; cases hb
    subst hb
    rw [run_convert_bytes_nil w s e hs he _ _ d hd]
    rfl
  | some ad =>
    cases hb : bs with
    | nil =>
      subst hb
      have hl : (loadCells ad 0).run P w = .ok #[] w := by simpa using run_loadCells_list (P := P) w ad [] (by simp)
      rw [run_convert_bytes_string w s d e _ _ _ hs he hd]
      have := run_bytesToString (P := P) w ad 0 cap [] (by simpa using hl)
      rw [List.length_nil, this]
      rfl
    | cons y ys =>
      obtain ⟨b, o, hb', _⟩ := g3 0 y (by rw [hb]; rfl)
      cases hb'
      have hall := run_convert_bytes_arg (P := P) w s e hs he b o bs.length cap (bs.map fun x => (x.toNat : Int)) (by simp) (fun i hi => by
        obtain ⟨x, hx⟩ : ∃ x, bs[i]? = some x := ⟨_, List.getElem?_eq_getElem hi⟩
        obtain ⟨b2, o2, h2, hc⟩ := g3 i x hx
        cases h2
        have := hc 0 _ rfl
        simp only [Nat.mul_one, Nat.add_zero] at this
        rw [this]
        simp [List.getD, hx]) d hd
      rw [← hb, hall]
      have e2 : strOfNums (bs.map fun x => (x.toNat : Int)) = ⟨bs.toArray⟩ := by
        unfold strOfNums
        apply ByteArray.ext
        simp [Function.comp_def]
      rw [e2]
theorem sAppend_str {base e : Nat} {v : Value} {u : TypeId} {xs l : List UInt8} {ty : Nat} (hel : elQ P T = some e) (hu : P.underlying u = some .string) (hk : szQ P e = 1) (hz : zeroQ P e = some [.int .u8 0]) (hzz : (P.info? e).map (·.zero) = some (some (.int .u8 0))) (hby1 : byQ P e = 1)
    (hown : Own w base e 1 v encB xs) (hbase : base ≤ w.heap.size) (hby : xs.length + l.length ≤ 140737488355328)
    (h : ∀ v' w', Own w' base e 1 v' encB (xs ++ l) → w.grownBy w' v.ownBlock → K v' w') : sBuiltin P .append [T, u] ty [v, tv l] w K := by
  obtain ⟨i, z, hi, _, _, hsz, hbq⟩ := zero_info hz
  rw [hi] at hzz
  have hiz : i.zero = some (.int .u8 0) := by simpa using hzz
  have hm : maxLen = 9223372036854775807 := rfl
  have hsc : strCells ⟨l.toArray⟩ = l.flatMap encB := by
    unfold strCells
    rw [List.map_eq_flatMap]
  obtain ⟨v', w', hr, h2, h3, _⟩ := run_append_own_string (P := P) w base T u ty e i (elQ_spec hel) hu hi hiz (by rw [hsz, hk]) (by rw [hbq, hby1]) v xs.length (xs.flatMap encB) hown ⟨l.toArray⟩ (by rw [size_tv]; omega) (by rw [size_tv]; omega) hbase
  have := h v' w' (by
    unfold Own
    rw [List.length_append, List.flatMap_append, ← hsc]
    rw [size_tv] at h2
    exact h2) h3
  unfold sBuiltin after
  dsimp only
  rw [hr]
  exact this

/-- A text that is gone through, and where. -/
def Iter (w : World) (b : Nat) (l : List UInt8) (pos : Nat) : Prop := w.heap[b]? = some (.stringIter ⟨l.toArray⟩ pos)
theorem Iter.lt {w : World} {b : Nat} {l : List UInt8} {pos : Nat} (h : Iter w b l pos) : b < w.heap.size := by
  unfold Iter at h
  exact (Array.getElem?_eq_some_iff.1 h).1
theorem Iter.ext {w w' : World} {b : Nat} {l : List UInt8} {pos : Nat} (h : Iter w b l pos) (e : Ext w w') : Iter w' b l pos := by
  have hb := h.lt
  unfold Iter at *
  rw [e.block b hb]; exact h
theorem Iter.wr {w w' : World} {row : Option Nat} {b : Nat} {l : List UInt8} {pos : Nat} (h : Iter w b l pos) (g : w.grownBy w' row) (hb : some b ≠ row) : Iter w' b l pos := by
  have hl := h.lt
  unfold Iter at *
  rw [g.block b hl hb]; exact h
theorem sRange_str {l : List UInt8} (hT : P.underlying T = some .string) (h : ∀ b w', b = w.heap.size → w'.heap.size = b + 1 → Ext w w' → Iter w' b l 0 → K (.pointer (some ⟨b, 0, none⟩)) w') : sRange P T (tv l) w K := by
  have := h w.heap.size (w.iter ⟨l.toArray⟩ 0) rfl (by simp [World.iter]) ((Below.refl _ _).alloc (Nat.le_refl _) _) (World.iter_heap w _ _)
  unfold sRange after
  rw [run_range_string w T _ hT]
  exact this
theorem sNext_str {ty b : Nat} {l : List UInt8} {pos : Nat} (hi : Iter w b l pos) (hp : pos < l.length)
    (h : ∀ w', w'.heap.size = w.heap.size → Wr b w w' → Iter w' b l (pos + (dl (l.drop pos)).2) → K (.tuple ⟨[.bool true, .int .i64 pos, .int .i32 (dl (l.drop pos)).1]⟩) w') : sNext P (.pointer (some ⟨b, 0, none⟩)) true ty w K := by
  have hb := hi.lt
  unfold Iter at hi
  have hd := decode_dl ⟨l.toArray⟩ pos
  have hdl : (⟨l.toArray⟩ : ByteArray).data.toList = l := rfl
  rw [hdl] at hd
  have hp' : pos < (⟨l.toArray⟩ : ByteArray).size := by rw [size_tv]; exact hp
  have hr : (Instr.next (.pointer (some ⟨b, 0, none⟩)) true ty).run P w = .ok (.tuple ⟨[.bool true, .int .i64 pos, .int .i32 (dl (l.drop pos)).1]⟩) { w with heap := w.heap.setIfInBounds b (.stringIter ⟨l.toArray⟩ (pos + (dl (l.drop pos)).2)) } := by
    simp only [Instr.next, getObj, setObj, Sem.run_bind, Sem.run, hi, Result.andThen, hp', if_true, hd]
    simp [goInt]
  have := h { w with heap := w.heap.setIfInBounds b (.stringIter ⟨l.toArray⟩ (pos + (dl (l.drop pos)).2)) } (by simp) ⟨rfl, rfl, rfl, by simp, fun k hk hne => by
    show (w.heap.setIfInBounds b _)[k]? = _
    rw [Array.getElem?_setIfInBounds_ne (fun e => hne (by rw [e]))]⟩ (by
    unfold Iter
    show (w.heap.setIfInBounds b _)[b]? = _
    rw [Array.getElem?_setIfInBounds_self_of_lt hb])
  unfold sNext after
  rw [hr]
  exact this
theorem sNext_end {ty b : Nat} {l : List UInt8} {pos : Nat} (hi : Iter w b l pos) (hp : ¬ pos < l.length) : sNext P (.pointer (some ⟨b, 0, none⟩)) true ty w K = K (.tuple ⟨[.bool false]⟩) w := by
  unfold Iter at hi
  have hp' : ¬ pos < (⟨l.toArray⟩ : ByteArray).size := by rw [size_tv]; exact hp
  have hr : (Instr.next (.pointer (some ⟨b, 0, none⟩)) true ty).run P w = .ok (.tuple ⟨[.bool false]⟩) w := by
    simp [Instr.next, getObj, Sem.run, hi, hp']
  unfold sNext after
  rw [hr]
end
end Go.Lift
