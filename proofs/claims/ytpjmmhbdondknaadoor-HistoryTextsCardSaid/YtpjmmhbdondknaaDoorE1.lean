/- The document's runes and texts: sizes, one rune's bytes. No conditions but right runes. The document's runes and texts: one rune's bytes, bytes of runes. No conditions but right runes. The document's texts: bytes of runes; the number that bytes say. Conditions: not too long. -/
import Derived.Test.YtpjmmhbdondknaaDoorQ7
namespace Go.Proofs.YtpjmmhbdondknaaDoor
open Go Go.Lift Go.RowKit Go.Txt

theorem sz_eq {r : Int} (h : okR r) : (sz r : Int) = if r < 128 then 1 else if r < 2048 then 2 else if r < 65536 then 3 else 4 := by
  unfold sz
  rcases enc_cases h with ⟨h1, e⟩ | ⟨h1, h2, e⟩ | ⟨h1, h2, e⟩ | ⟨h1, e⟩ <;> rw [e]
  · rw [if_pos h1]; rfl
  · rw [if_neg (by omega), if_pos h2]; rfl
  · rw [if_neg (by omega), if_neg (by omega), if_pos h2]; rfl
  · rw [if_neg (by omega), if_neg (by omega), if_neg (by omega)]; rfl
theorem dsize_spec {w : World} (r : Int) : sCall Tryd.prog S.bodkinref01_size.n [.int .i32 r] w fun u w' => w' = w ∧ u = .int .i64 (if okR r then sz r else 0) := by
  refine S.bodkinref01_size.call ?_
  unfold S.bodkinref01_size
  refine JoinS.intro (fun us w' => w' = w ∧ us = [] ∧ okR r) ?_ ?_
  · have no : ¬ okR r → (if okR r then (sz r : Int) else 0) = 0 := fun h => if_neg h
    rw [sBin_lss, sIf_dec]
    refine ⟨fun h => ⟨rfl, by rw [no (by unfold okR; omega)]⟩, fun h1 => ?_⟩
    rw [sBin_gtr, sIf_dec]
    refine ⟨fun h => ⟨rfl, by rw [no (by unfold okR; omega)]⟩, fun h2 => ?_⟩
    rw [sBin_geq, sIf_dec]
    refine ⟨fun h => ?_, fun h3 => ⟨rfl, rfl, by unfold okR; omega⟩⟩
    rw [sBin_leq, sIf_dec]
    exact ⟨fun h4 => ⟨rfl, by rw [no (by unfold okR; omega)]⟩, fun h4 => ⟨rfl, rfl, by unfold okR; omega⟩⟩
  rintro us vs w1 ⟨rfl, rfl, hok⟩
  unfold S.bodkinref01_size_J1
  rw [if_pos hok, sz_eq hok, sBin_lss, sIf_dec]
  refine ⟨fun h => ⟨rfl, by rw [if_pos h]⟩, fun h1 => ?_⟩
  rw [if_neg h1, sBin_lss, sIf_dec]
  refine ⟨fun h => ⟨rfl, by rw [if_pos h]⟩, fun h2 => ?_⟩
  rw [if_neg h2, sBin_lss, sIf_dec]
  exact ⟨fun h => ⟨rfl, by rw [if_pos h]⟩, fun h => ⟨rfl, by rw [if_neg h]⟩⟩
end Go.Proofs.YtpjmmhbdondknaaDoor
namespace Go.Proofs.YtpjmmhbdondknaaDoor
open Go Go.Lift Go.RowKit Go.Txt

section
variable {P : Program} {T : TypeId} {cx cy : Bool} {w : World} {K : K1}
theorem sConv_int {s d : TypeId} {k k' : IntKind} {n : Int} (hs : (P.underlying s).isSome = true) (hd : P.underlying d = some (.int k')) (hn : k'.wrap n = n) : sConv P s d (.int k n) w K = K (.int k' n) w := by
  obtain ⟨e, he⟩ := Option.isSome_iff_exists.1 hs
  have hr : (convert s d (.int k n)).run P w = .ok (.int k' n) w := by
    simp [convert, run_underlying he, run_underlying hd, Conv.intToInt, hn]
  unfold sConv after
  rw [hr]
theorem sBin_add32 (a b : Int) (h : -2147483648 ≤ a + b ∧ a + b ≤ 2147483647) : sBin P .add T cx cy (.int .i32 a) (.int .i32 b) w K = K (.int .i32 (a + b)) w := by rw [sBin_addw, IntWalk.i32_in _ h]
theorem sBin_sub32 (a b : Int) (h : -2147483648 ≤ a - b ∧ a - b ≤ 2147483647) : sBin P .sub T cx cy (.int .i32 a) (.int .i32 b) w K = K (.int .i32 (a - b)) w := by rw [sBin_subw, IntWalk.i32_in _ h]
theorem sBin_mul32 (a b : Int) (h : -2147483648 ≤ a * b ∧ a * b ≤ 2147483647) : sBin P .mul T cx cy (.int .i32 a) (.int .i32 b) w K = K (.int .i32 (a * b)) w := by rw [sBin_mulw, IntWalk.i32_in _ h]
theorem sBin_quo32 (a b : Int) (h0 : 0 ≤ a) (h1 : 0 < b) (h : a ≤ 2147483647) : sBin P .quo T cx cy (.int .i32 a) (.int .i32 b) w K = K (.int .i32 (a / b)) w := by
  rw [sBin_num _ _ _ (by decide) (by decide)]
  have hq : a.tdiv b = a / b := by rw [Int.tdiv_eq_ediv_of_nonneg h0]
  have hle : a / b ≤ a := Int.ediv_le_self b h0
  have hge : 0 ≤ a / b := Int.ediv_nonneg h0 (by omega)
  have hb : b ≠ 0 := by omega
  simp [after, numOp, Op.intDiv, hb, hq, IntWalk.i32_in (a / b) ⟨by omega, by omega⟩]
theorem sBin_rem32 (a b : Int) (h0 : 0 ≤ a) (h1 : 0 < b) : sBin P .rem T cx cy (.int .i32 a) (.int .i32 b) w K = K (.int .i32 (a % b)) w := by
  rw [sBin_num _ _ _ (by decide) (by decide)]
  have hq : a.tmod b = a % b := by rw [Int.tmod_eq_emod_of_nonneg h0]
  have hb : b ≠ 0 := by omega
  simp [after, numOp, Op.intDiv, hb, hq]
end
theorem u8v {n : Nat} (h : n < 256) : (Value.int .u8 (n : Nat)) = .int .u8 (UInt8.ofNat n).toNat := by rw [ofNat_toNat h]
theorem cvb {w : World} {K : K1} {z : Int} {n : Nat} (hz : z = n) (h : n < 256) : sConv Tryd.prog S.T.int32 S.T.uint8 (.int .i32 z) w K = K (.int .u8 (UInt8.ofNat n).toNat) w := by
  rw [sConv_int ti32 tu8 (IntWalk.u8_in _ (by omega)), hz, u8v h]
theorem done_spec {w : World} {r : Int} (hr : okR r) : sCall Tryd.prog S.bodkinref01_one.n [.int .i32 r, .int .i64 (sz r)] w fun u w' => Ext w w' ∧ u = tv (enc r) := by
  refine S.bodkinref01_one.call ?_
  unfold S.bodkinref01_one
  have hr' := hr
  unfold okR at hr'
  have hsz := sz_eq hr
  rcases enc_cases hr with ⟨h1, e⟩ | ⟨h1, h2, e⟩ | ⟨h1, h2, e⟩ | ⟨h1, e⟩
  · rw [if_pos h1] at hsz
    rw [hsz, sBin_eql, sIf_pos rfl, cvb (n := r.toNat) (by omega) (by omega)]
    refine sBuildSlice_own (n := 1) (enc := encB) (xs := enc r) (lp := [(0, encB (UInt8.ofNat r.toNat))]) S.tel_L_uint8 S.tsz_uint8 (by rw [e]; rfl) S.tze_uint8 (by decide) (by decide) encB_ok rfl (by rw [e]; rfl) fun t w4 ht ho4 e4 hs4 => ?_
    rw [sConv_bytes tbyt tu8 tstr (ho4.sl encB_ok)]
    exact ⟨e4, rfl⟩
  · rw [if_neg (by omega), if_pos h2] at hsz
    rw [hsz, sBin_eql, sIf_neg (by decide), sBin_eql, sIf_pos rfl, sBin_quo32 _ _ (by omega) (by omega) (by omega), sBin_add32 _ _ ⟨by omega, by omega⟩, cvb (n := 192 + r.toNat / 64) (by omega) (by omega), sBin_rem32 _ _ (by omega) (by omega), sBin_add32 _ _ ⟨by omega, by omega⟩, cvb (n := 128 + r.toNat % 64) (by omega) (by omega)]
    refine sBuildSlice_own (n := 2) (enc := encB) (xs := enc r) (lp := [(0, encB (UInt8.ofNat (192 + r.toNat / 64))), (1, encB (UInt8.ofNat (128 + r.toNat % 64)))]) S.tel_L_uint8 S.tsz_uint8 (by rw [e]; rfl) S.tze_uint8 (by decide) (by decide) encB_ok rfl (by rw [e]; rfl) fun t w4 ht ho4 e4 hs4 => ?_
    rw [sConv_bytes tbyt tu8 tstr (ho4.sl encB_ok)]
    exact ⟨e4, rfl⟩
  · rw [if_neg (by omega), if_neg (by omega), if_pos h2] at hsz
    rw [hsz, sBin_eql, sIf_neg (by decide), sBin_eql, sIf_neg (by decide), sBin_eql, sIf_pos rfl, sBin_quo32 _ _ (by omega) (by omega) (by omega), sBin_add32 _ _ ⟨by omega, by omega⟩, cvb (n := 224 + r.toNat / 4096) (by omega) (by omega),
      sBin_quo32 _ _ (by omega) (by omega) (by omega), sBin_rem32 _ _ (by omega) (by omega), sBin_add32 _ _ ⟨by omega, by omega⟩, cvb (n := 128 + r.toNat / 64 % 64) (by omega) (by omega), sBin_rem32 _ _ (by omega) (by omega), sBin_add32 _ _ ⟨by omega, by omega⟩, cvb (n := 128 + r.toNat % 64) (by omega) (by omega)]
    refine sBuildSlice_own (n := 3) (enc := encB) (xs := enc r) (lp := [(0, encB (UInt8.ofNat (224 + r.toNat / 4096))), (1, encB (UInt8.ofNat (128 + r.toNat / 64 % 64))), (2, encB (UInt8.ofNat (128 + r.toNat % 64)))]) S.tel_L_uint8 S.tsz_uint8 (by rw [e]; rfl) S.tze_uint8 (by decide) (by decide) encB_ok rfl (by rw [e]; rfl) fun t w4 ht ho4 e4 hs4 => ?_
    rw [sConv_bytes tbyt tu8 tstr (ho4.sl encB_ok)]
    exact ⟨e4, rfl⟩
  · rw [if_neg (by omega), if_neg (by omega), if_neg (by omega)] at hsz
    rw [hsz, sBin_eql, sIf_neg (by decide), sBin_eql, sIf_neg (by decide), sBin_eql, sIf_neg (by decide), sBin_quo32 _ _ (by omega) (by omega) (by omega), sBin_add32 _ _ ⟨by omega, by omega⟩, cvb (n := 240 + r.toNat / 262144) (by omega) (by omega),
      sBin_quo32 _ _ (by omega) (by omega) (by omega), sBin_rem32 _ _ (by omega) (by omega), sBin_add32 _ _ ⟨by omega, by omega⟩, cvb (n := 128 + r.toNat / 4096 % 64) (by omega) (by omega),
      sBin_quo32 _ _ (by omega) (by omega) (by omega), sBin_rem32 _ _ (by omega) (by omega), sBin_add32 _ _ ⟨by omega, by omega⟩, cvb (n := 128 + r.toNat / 64 % 64) (by omega) (by omega), sBin_rem32 _ _ (by omega) (by omega), sBin_add32 _ _ ⟨by omega, by omega⟩, cvb (n := 128 + r.toNat % 64) (by omega) (by omega)]
    refine sBuildSlice_own (n := 4) (enc := encB) (xs := enc r) (lp := [(0, encB (UInt8.ofNat (240 + r.toNat / 262144))), (1, encB (UInt8.ofNat (128 + r.toNat / 4096 % 64))), (2, encB (UInt8.ofNat (128 + r.toNat / 64 % 64))), (3, encB (UInt8.ofNat (128 + r.toNat % 64)))]) S.tel_L_uint8 S.tsz_uint8 (by rw [e]; rfl) S.tze_uint8 (by decide) (by decide) encB_ok rfl (by rw [e]; rfl) fun t w4 ht ho4 e4 hs4 => ?_
    rw [sConv_bytes tbyt tu8 tstr (ho4.sl encB_ok)]
    exact ⟨e4, rfl⟩
end Go.Proofs.YtpjmmhbdondknaaDoor
namespace Go.Proofs.YtpjmmhbdondknaaDoor
open Go Go.Lift Go.RowKit Go.Txt

theorem dencode_spec {w : World} {v : Value} {l : List Int} (hl : Sl w v 1 encRn l) (hn : l.length ≤ 10000000) : sCall Tryd.prog S.bodkinref01_Encode.n [v] w fun u w' => Ext w w' ∧ u = tv (txt l) := by
  refine S.bodkinref01_Encode.call ?_
  unfold S.bodkinref01_Encode
  rw [sLen_sl S.tel_L_int32 hl]
  refine LoopS.intro (fun us w1 => Ext w w1 ∧ ∃ i : Nat, us = [tv (txt (l.take i)), .int .i64 i] ∧ i ≤ l.length)
    (fun us _ => match us with | [_, .int _ a] => (l.length - a).toNat | _ => 0) ⟨Ext.refl w, 0, rfl, Nat.zero_le _⟩ ?_
  rintro us vs w1 ⟨e1, i, rfl, hi⟩
  unfold S.bodkinref01_Encode_L1
  rw [Go.Lift.hd, Go.Lift.tl, Go.Lift.hd, sBin_lss, sIf_dec]
  refine ⟨fun hlt => ?_, fun hge => ?_⟩
  · obtain ⟨r, hr⟩ : ∃ r, l[i]? = some r := ⟨_, List.getElem?_eq_getElem (by omega)⟩
    obtain ⟨b, of, hel, hc⟩ := (hl.ext e1).el hr
    have htl := txt_len (l.take i)
    rw [List.length_take] at htl
    have hel4 := (enc_len r).2
    unfold sz at hel4
    have et : txt (l.take (i + 1)) = txt (l.take i) ++ enc r := by rw [take_succ_of hr, txt_append, txt_cons, txt_nil, List.append_nil]
    rw [sIdxA_sl S.tel_L_int32 S.tsz_int32 (by omega) (hl.ext e1) hr rfl, hel, sLoad_cell (v := .int .i32 r) S.tcell_int32 (hc.fst rfl)]
    refine (dsize_spec r).mono ?_
    rintro u w2 ⟨rfl, rfl⟩
    rw [sBin_eql, sIf_dec]
    by_cases hok : okR r
    · rw [if_pos hok]
      have := (enc_len r).1
      refine ⟨fun h => by omega, fun _ => ?_⟩
      refine (done_spec hok).mono ?_
      rintro u w3 ⟨e3, rfl⟩
      rw [sBin_strAdd (by omega), sBin_add _ _ ⟨by omega, by omega⟩]
      exact ⟨⟨e1.trans e3, i + 1, by rw [et]; simp, by omega⟩, by simp only []; omega⟩
    · rw [if_neg hok]
      refine ⟨fun _ => ?_, fun h => absurd rfl h⟩
      have hb : enc r = enc 65533 := by
        rw [← enc_norm r]; unfold norm; rw [if_neg hok]
      refine (done_spec (r := 65533) (by right; decide)).mono ?_
      rintro u w3 ⟨e3, rfl⟩
      rw [← hb, sBin_strAdd (by omega), sBin_add _ _ ⟨by omega, by omega⟩]
      exact ⟨⟨e1.trans e3, i + 1, by rw [et]; simp, by omega⟩, by simp only []; omega⟩
  · obtain rfl : i = l.length := by omega
    exact ⟨e1, by rw [List.take_length]⟩
/-- The number that some bytes say, byte by byte. -/
def numG (bs : List UInt8) (f0 : Int) : Nat → Int
  | 0 => f0
  | k + 1 => 64 * numG bs f0 k + by_ bs (k + 1) - 128
def numB (bs : List UInt8) : Int :=
  if bs.length = 1 then by_ bs 0 else numG bs ((by_ bs 0 : Int) - (if bs.length = 2 then 192 else if bs.length = 3 then 224 else 240)) (bs.length - 1)
theorem by_get {bs : List UInt8} {k : Nat} {b : UInt8} (h : bs[k]? = some b) : (by_ bs k : Int) = b.toNat := by unfold by_; rw [h]; rfl
theorem dnumber_spec {w : World} {bs : List UInt8} (h1 : 1 ≤ bs.length) (h4 : bs.length ≤ 4) : sCall Tryd.prog S.bodkinref01_number.n [tv bs] w fun u w' => w' = w ∧ u = .int .i32 (numB bs) := by
  refine S.bodkinref01_number.call ?_
  unfold S.bodkinref01_number
  have l0 := by_lt bs 0
  have l1 := by_lt bs 1
  have l2 := by_lt bs 2
  have l3 := by_lt bs 3
  have hget : ∀ k, k < bs.length → ∃ b, bs[k]? = some b ∧ (b.toNat : Int) = by_ bs k := fun k hk => ⟨_, List.getElem?_eq_getElem hk, (by_get (List.getElem?_eq_getElem hk)).symm⟩
  have hcv : ∀ {w : World} {K : K1} {z : Nat}, z < 256 → sConv Tryd.prog S.T.uint8 S.T.int32 (.int .u8 z) w K = K (.int .i32 z) w := fun {w K z} hz =>
    sConv_int (by kernel_rfl) (by kernel_rfl) (IntWalk.i32_in _ ⟨by omega, by omega⟩)
  obtain ⟨b0, hb0, e0⟩ := hget 0 (by omega)
  rw [sIdx_str (i := 0) (z := 0) tstr hb0 rfl, e0, hcv l0]
  have stp : ∀ (k : Nat) (f : Int) (hk : k < bs.length) (hf : -100000000 ≤ 64 * f ∧ 64 * f ≤ 100000000) (w : World) (Q : K1) (N : List Value → World → Prop), N [.int .i32 (64 * f + by_ bs k - 128), .int .i64 ((k : Int) + 1)] w → S.bodkinref01_number_L2 Q N (tv bs) (.int .i32 f) (.int .i64 k) w := by
    intro k f hk hf w Q N hN
    unfold S.bodkinref01_number_L2
    obtain ⟨b, hb, e⟩ := hget k hk
    have lk := by_lt bs k
    rw [sLen_str tstr, sBin_lss, sIf_pos (by omega), sBin_mul32 _ _ ⟨by omega, by omega⟩, sIdx_str (i := k) tstr hb rfl, e, hcv lk, sBin_add32 _ _ ⟨by omega, by omega⟩, sBin_sub32 _ _ ⟨by omega, by omega⟩, sBin_add _ _ ⟨by omega, by omega⟩]
    exact hN
  refine JoinS.intro (fun us w' => w' = w ∧ 2 ≤ bs.length ∧ us = [.int .i32 ((by_ bs 0 : Int) - (if bs.length = 2 then 192 else if bs.length = 3 then 224 else 240))]) ?_ ?_
  · rw [sLen_str tstr, sBin_eql, sIf_dec]
    refine ⟨fun h => ⟨rfl, by unfold numB; rw [if_pos (by omega)]⟩, fun n1 => ?_⟩
    rw [sBin_eql, sIf_dec]
    refine ⟨fun h => ?_, fun n2 => ?_⟩
    · rw [sBin_sub32 _ _ ⟨by omega, by omega⟩]
      exact ⟨rfl, by omega, by rw [if_pos (by omega)]⟩
    rw [sBin_eql, sIf_dec]
    refine ⟨fun h => ?_, fun n3 => ?_⟩
    · rw [sBin_sub32 _ _ ⟨by omega, by omega⟩]
      exact ⟨rfl, by omega, by rw [if_neg (by omega), if_pos (by omega)]⟩
    · rw [sBin_sub32 _ _ ⟨by omega, by omega⟩]
      exact ⟨rfl, by omega, by rw [if_neg (by omega), if_neg (by omega)]⟩
  rintro us vs w1 ⟨rfl, h2, rfl⟩
  unfold S.bodkinref01_number_J1
  have hnum : numB bs = numG bs ((by_ bs 0 : Int) - (if bs.length = 2 then 192 else if bs.length = 3 then 224 else 240)) (bs.length - 1) := by unfold numB; rw [if_neg (by omega)]
  have hf0 : -240 ≤ ((by_ bs 0 : Int) - (if bs.length = 2 then 192 else if bs.length = 3 then 224 else 240)) ∧ ((by_ bs 0 : Int) - (if bs.length = 2 then 192 else if bs.length = 3 then 224 else 240)) ≤ 63 := by
    split
    · omega
    · split <;> omega
  rw [hnum, Go.Lift.hd]
  generalize ((by_ bs 0 : Int) - (if bs.length = 2 then 192 else if bs.length = 3 then 224 else 240)) = f0 at hf0
  refine LoopS.ix (fun i us w' => w' = w1 ∧ ∃ k : Nat, i = bs.length - (k + 1) ∧ k + 1 ≤ bs.length ∧ us = [.int .i32 (numG bs f0 k), .int .i64 ((k + 1 : Nat) : Int)]) ⟨_, rfl, 0, rfl, by omega, rfl⟩ ?_
  rintro i us vs w2 ⟨rfl, k, rfl, hk, rfl⟩
  rw [Go.Lift.hd, Go.Lift.tl, Go.Lift.hd]
  by_cases hlt : k + 1 < bs.length
  · have q1 := by_lt bs (0 + 1)
    have q2 := by_lt bs (1 + 1)
    refine stp (k + 1) _ hlt ?_ _ _ _ ?_
    · rcases (by omega : k = 0 ∨ k = 1 ∨ k = 2) with rfl | rfl | rfl
      · simp only [numG]; omega
      · simp only [numG]; omega
      · simp only [numG]; omega
    · exact ⟨_, by omega, rfl, k + 1, rfl, by omega, by simp [numG]⟩
  · unfold S.bodkinref01_number_L2
    rw [sLen_str tstr, sBin_lss, sIf_neg (by omega)]
    refine ⟨rfl, ?_⟩
    rw [show bs.length - 1 = k by omega]
end Go.Proofs.YtpjmmhbdondknaaDoor
