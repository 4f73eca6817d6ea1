/- What decoding gives is what the document's numbers give: plain. No conditions. -/
import Derived.Test.YtpjmmhbdondknaaDoorE1
namespace Go.Proofs.YtpjmmhbdondknaaDoor
open Go Go.Lift Go.RowKit Go.Txt

theorem numB_enc {r : Int} (h : okR r) : numB (enc r) = r := by
  have h' := h
  unfold okR at h'
  rcases enc_cases h with ⟨h1, e⟩ | ⟨h1, h2, e⟩ | ⟨h1, h2, e⟩ | ⟨h1, e⟩
  · have y0 : by_ (enc r) 0 = r.toNat := by rw [e]; exact ofNat_toNat (by omega)
    have hl : (enc r).length = 1 := by rw [e]; rfl
    unfold numB
    rw [if_pos hl, y0]; omega
  · have y0 : by_ (enc r) 0 = 192 + r.toNat / 64 := by rw [e]; exact ofNat_toNat (by omega)
    have y1 : by_ (enc r) (0 + 1) = 128 + r.toNat % 64 := by rw [e]; exact ofNat_toNat (by omega)
    have hl : (enc r).length = 2 := by rw [e]; rfl
    unfold numB
    rw [hl, if_neg (by decide), if_pos rfl]
    simp only [numG, y0, y1]
    omega
  · have y0 : by_ (enc r) 0 = 224 + r.toNat / 4096 := by rw [e]; exact ofNat_toNat (by omega)
    have y1 : by_ (enc r) (0 + 1) = 128 + r.toNat / 64 % 64 := by rw [e]; exact ofNat_toNat (by omega)
    have y2 : by_ (enc r) (1 + 1) = 128 + r.toNat % 64 := by rw [e]; exact ofNat_toNat (by omega)
    have hl : (enc r).length = 3 := by rw [e]; rfl
    unfold numB
    rw [hl, if_neg (by decide), if_neg (by decide), if_pos rfl]
    simp only [numG, y0, y1, y2]
    omega
  · have y0 : by_ (enc r) 0 = 240 + r.toNat / 262144 := by rw [e]; exact ofNat_toNat (by omega)
    have y1 : by_ (enc r) (0 + 1) = 128 + r.toNat / 4096 % 64 := by rw [e]; exact ofNat_toNat (by omega)
    have y2 : by_ (enc r) (1 + 1) = 128 + r.toNat / 64 % 64 := by rw [e]; exact ofNat_toNat (by omega)
    have y3 : by_ (enc r) (2 + 1) = 128 + r.toNat % 64 := by rw [e]; exact ofNat_toNat (by omega)
    have hl : (enc r).length = 4 := by rw [e]; rfl
    unfold numB
    rw [hl, if_neg (by decide), if_neg (by decide), if_neg (by decide)]
    simp only [numG, y0, y1, y2, y3]
    omega
theorem of_by {bs : List UInt8} {k n : Nat} (hk : k < bs.length) (h : by_ bs k = n) : UInt8.ofNat n = bs[k] := by
  have e : by_ bs k = (bs[k]).toNat := by unfold by_; rw [List.getElem?_eq_getElem hk]; rfl
  rw [← h, e]
  exact UInt8.ofNat_toNat
theorem take_one {bs : List UInt8} (h : 0 < bs.length) : bs.take 1 = [bs[0]] := by
  cases bs with | nil => simp at h | cons a r => rfl
theorem take_two {bs : List UInt8} (h : 1 < bs.length) : bs.take 2 = [bs[0], bs[1]] := by
  match bs, h with | a :: b :: r, _ => rfl
theorem take_three {bs : List UInt8} (h : 2 < bs.length) : bs.take 3 = [bs[0], bs[1], bs[2]] := by
  match bs, h with | a :: b :: c :: r, _ => rfl
theorem take_four {bs : List UInt8} (h : 3 < bs.length) : bs.take 4 = [bs[0], bs[1], bs[2], bs[3]] := by
  match bs, h with | a :: b :: c :: d :: r, _ => rfl
theorem dl_prefix {bs : List UInt8} (hne : bs ≠ []) : dl bs = (65533, 1) ∨ (okR (dl bs).1 ∧ enc (dl bs).1 = bs.take (dl bs).2) := by
  have h0 : 0 < bs.length := by cases bs with | nil => exact absurd rfl hne | cons _ _ => simp
  have l0 := by_lt bs 0
  have l1 := by_lt bs 1
  have l2 := by_lt bs 2
  have l3 := by_lt bs 3
  have hok := dl_ok bs
  unfold dl at hok ⊢
  dsimp only at hok ⊢
  split at hok
  · rename_i c1
    rw [if_pos c1]
    refine .inr ⟨hok, ?_⟩
    rcases enc_cases hok with ⟨_, e⟩ | ⟨g, _⟩ | ⟨g, _⟩ | ⟨g, _⟩
    · rw [e, take_one h0, of_by h0 (n := ((by_ bs 0 : Int)).toNat) (by omega)]
    all_goals (dsimp only at g; omega)
  rename_i n1
  rw [if_neg n1]
  split at hok
  · rename_i c2
    rw [if_pos c2]
    obtain ⟨q0, q1, q2⟩ := c2
    split at hok
    · rename_i c
      rw [if_pos c]
      refine .inr ⟨hok, ?_⟩
      dsimp only at hok ⊢
      rcases enc_cases hok with ⟨g, _⟩ | ⟨g1, g2, e⟩ | ⟨g, _⟩ | ⟨g, _⟩
      · omega
      · rw [e, take_two q1, of_by h0 (by omega), of_by q1 (by omega)]
      all_goals omega
    · rename_i c
      rw [if_neg c]; exact .inl rfl
  rename_i n2
  rw [if_neg n2]
  split at hok
  · rename_i c3
    rw [if_pos c3]
    obtain ⟨q0, ⟨q1, q1'⟩, q2, q2'⟩ := c3
    split at hok
    · rename_i c
      rw [if_pos c]
      refine .inr ⟨hok, ?_⟩
      dsimp only at hok ⊢
      rcases enc_cases hok with ⟨g, _⟩ | ⟨g, g', _⟩ | ⟨g1, g2, e⟩ | ⟨g, _⟩
      · omega
      · omega
      · rw [e, take_three q2, of_by h0 (by omega), of_by q1 (by omega), of_by q2 (by omega)]
      · omega
    · rename_i c
      rw [if_neg c]; exact .inl rfl
  rename_i n3
  rw [if_neg n3]
  split at hok
  · rename_i c4
    rw [if_pos c4]
    obtain ⟨q0, ⟨q1, q1'⟩, ⟨q2, q2'⟩, q3, q3'⟩ := c4
    split at hok
    · rename_i c
      rw [if_pos c]
      refine .inr ⟨hok, ?_⟩
      dsimp only at hok ⊢
      rcases enc_cases hok with ⟨g, _⟩ | ⟨g, g', _⟩ | ⟨g, g', _⟩ | ⟨g1, e⟩
      · omega
      · omega
      · omega
      · rw [e, take_four q3, of_by h0 (by omega), of_by q1 (by omega), of_by q2 (by omega), of_by q3 (by omega)]
    · rename_i c
      rw [if_neg c]; exact .inl rfl
  · rename_i n4
    rw [if_neg n4]; exact .inl rfl
end Go.Proofs.YtpjmmhbdondknaaDoor
