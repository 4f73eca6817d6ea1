/- Ropes: parts of their texts. Conditions: right pieces. Ropes: a text in the place of some. Conditions: the table of sizes in memory; right pieces. Ropes: a text in the place of some: the walk. Conditions: the table of sizes in memory; right pieces. -/
import Derived.Test.YtpjmmhbdondknaaDoorQ4
namespace Go.Proofs.YtpjmmhbdondknaaDoor
open Go Go.Lift Go.RowKit Go.Txt

theorem txt_part {l : List Int} {a b : Nat} (h : a ≤ b) : ((txt l).drop (txt (l.take a)).length).take ((txt (l.take b)).length - (txt (l.take a)).length) = txt ((l.drop a).take (b - a)) := by
  have e1 : l.take b = l.take a ++ (l.drop a).take (b - a) := by
    conv => lhs; rw [← List.take_append_drop a (l.take b)]
    rw [List.take_take, Nat.min_eq_left h, List.drop_take]
  have e2 : txt l = txt (l.take a) ++ txt (l.drop a) := by rw [← txt_append, List.take_append_drop]
  have e3 : (txt (l.take b)).length - (txt (l.take a)).length = (txt ((l.drop a).take (b - a))).length := by
    rw [e1, txt_append, List.length_append]; omega
  rw [e3]
  conv => lhs; arg 2; rw [e2, List.drop_left]
  exact txt_take (l.drop a) (b - a)
abbrev InT (l : List Int) (a b : Int) : Prop := 0 ≤ a ∧ a ≤ b ∧ b ≤ l.length
theorem Plc.low {ps : List (List Int)} {at_ : Int} {n k : Nat} (h : Plc ps at_ n k) : (txt (ps.take n).flatten).length ≤ (txt (ps.flatten.take at_.toNat)).length := by
  obtain ⟨_, _, t2, _⟩ := h.take
  rw [t2, txt_append, List.length_append]; omega
theorem rslice_spec {w : World} {v : Value} {ps : List (List Int)} {a b : Int} (h : Rp w v ps) (hp : RpOk ps) : sCall Tryd.prog S.rope_Rope_Slice.n [v, .int .i64 a, .int .i64 b] w fun u w' => Ext w w' ∧
    ((¬ InT ps.flatten a b ∧ u = .tuple #[tv [], .int .i64 1]) ∨ (InT ps.flatten a b ∧ u = .tuple #[tv (txt ((ps.flatten.drop a.toNat).take (b.toNat - a.toNat))), .int .i64 0])) := by
  refine S.rope_Rope_Slice.call ?_
  unfold S.rope_Rope_Slice
  have hle := hp.le
  have hpn := hp.n
  refine (rbyteat_spec (at_ := a) h hp).mono ?_
  rintro u w1 ⟨e1, hu⟩
  rcases hu with ⟨hna, rfl⟩ | ⟨ha, rfl⟩
  · rw [sExtract_0, sExtract_1, sBin_neq, sIf_not]
    exact ⟨fun _ => ⟨e1, .inl ⟨fun h => hna ⟨h.1, by omega⟩, rfl⟩⟩, fun h => absurd h (by decide)⟩
  rw [sExtract_0, sExtract_1, sBin_neq, sIf_not]
  refine ⟨fun h => absurd rfl h, fun _ => ?_⟩
  rw [sBin_lss, sIf_dec]
  refine ⟨fun hlt => ⟨e1, .inl ⟨fun h => by omega, rfl⟩⟩, fun hab => ?_⟩
  refine (rbyteat_spec (at_ := b) (h.ext e1) hp).mono ?_
  rintro u w2 ⟨e2, hu⟩
  have E2 := e1.trans e2
  rcases hu with ⟨hnb, rfl⟩ | ⟨hb, rfl⟩
  · rw [sExtract_0, sExtract_1, sBin_neq, sIf_not]
    exact ⟨fun _ => ⟨E2, .inl ⟨fun h => hnb ⟨by omega, h.2.2⟩, rfl⟩⟩, fun h => absurd h (by decide)⟩
  rw [sExtract_0, sExtract_1, sBin_neq, sIf_not]
  refine ⟨fun h => absurd rfl h, fun _ => ?_⟩
  have hin : InT ps.flatten a b := ⟨ha.1, by omega, hb.2⟩
  refine (rfind_spec' (dim := 1) (at_ := a) (bias := 1) (h.ext E2) hp).mono ?_
  rintro u w3 ⟨e3, hu⟩
  have E3 := E2.trans e3
  rcases hu with ⟨hna, _⟩ | ⟨_, n, bc, vis, t, hf, hn, rfl, hbc, hkc, ht⟩
  · exact absurd ((ask_place hp (.inr rfl)).2 ha) hna
  obtain ⟨k, hk⟩ := fnd_plc hp ha.1 ha.2 hf hn
  have hlow := hk.low
  obtain ⟨p1, p2, p3⟩ := pre_le hp hn
  have htf := txt_len ps.flatten
  have hmono := txt_mono ps.flatten (show a.toNat ≤ b.toNat by omega)
  have htb := txt_mono ps.flatten (show b.toNat ≤ ps.flatten.length by omega)
  rw [List.take_length] at htb
  have hpart := txt_part (l := ps.flatten) (show a.toNat ≤ b.toNat by omega)
  rw [sExtract_0, sExtract_1, sExtract_2]
  refine sVar (vs := encSo (sP (ps.take n)) (itP (pN ps n)) 0) S.tze_rope_spot S.tsz_rope_spot (by decide) rfl rfl (encSo_one _ _ _) fun b11 w4 hb11 hs4 e4 hk11 => ?_
  refine sAlloc_newT S.tze_strings_Builder fun bo w5 hbo hs5 e5 hko => ?_
  have F5 := e4.trans e5
  have E5 := e3.trans F5
  have lc := hkc.lt
  have s3 := E2.size
  have hB0 : Bd w5 bo bo [] := .inl ⟨Nat.le_refl _, .slice none 0 0, hko, bytes_own.2 (Own.nil _ _ _ _ _), by intro e; cases e⟩
  refine (sstart_spec (hkc.ext F5)).mono ?_
  rintro u w6 ⟨e6, rfl⟩
  have E6 := E5.trans e6
  rw [sFld_agg (n := 3) S.tfd_item_Sum_D S.tagg_A3_int, sIdx_cell (i := 0) (z := 0) (v := .int .i64 (sP (ps.take n)).d0) S.tar_A3_int S.tcell_int S.tsz_int (by omega) rfl rfl]
  have hd0 : (sP (ps.take n)).d0 = (txt (ps.take n).flatten).length := rfl
  rw [hd0]
  have hbol : bo < w6.heap.size := by have := e6.size; omega
  refine LoopS.ix (fun i us w7 => us = [] ∧ Ext w2 w7 ∧ bo < w7.heap.size ∧ ∃ m : Nat, i = ps.length - m ∧ n ≤ m ∧ m ≤ ps.length ∧ Blk w7 bc (encCu t m (sP (ps.take m)) vis) ∧ Bd w7 bo bo (txt ((ps.take m).drop n).flatten))
    ⟨_, rfl, E6, hbol, n, rfl, Nat.le_refl _, hn, (hkc.ext F5).ext e6, by
      rw [List.drop_eq_nil_of_le (by rw [List.length_take]; omega)]
      exact hB0.ext e6⟩ ?_
  rintro i us vs w7 ⟨rfl, E7, hbl, m, rfl, hnm, hm, kc, hB⟩
  unfold S.rope_Rope_Slice_L1
  have hsplit : (ps.take m).flatten = (ps.take n).flatten ++ ((ps.take m).drop n).flatten := by
    rw [← List.flatten_append]
    congr 1
    conv => lhs; rw [← List.take_append_drop n (ps.take m)]
    rw [List.take_take, Nat.min_eq_left hnm]
  have hmid : (txt (ps.take m).flatten).length = (txt (ps.take n).flatten).length + (txt ((ps.take m).drop n).flatten).length := by
    rw [hsplit, txt_append, List.length_append]
  obtain ⟨r1, r2, r3⟩ := pre_le hp hm
  refine (blen_spec hB).mono ?_
  rintro u w7' ⟨rfl, rfl⟩
  rw [sBin_add _ _ ⟨by omega, by omega⟩, sBin_lss, sIf_dec]
  refine ⟨fun hlt => ?_, fun hge => ?_⟩
  · have hml : m < ps.length := by
      rcases Nat.lt_or_ge m ps.length with h3 | h3
      · exact h3
      · exfalso
        obtain rfl : m = ps.length := by omega
        rw [List.take_length] at hmid hlt
        omega
    have hg : ps[m]? = some ps[m] := List.getElem?_eq_getElem hml
    have kc' : Blk w7' bc (encCu t m (allS ((ps.map itP).take m)) vis) := by rw [hp.sums hm]; exact kc
    have htw : Tp w7' t (ps.map itP) := ht.ext E7
    refine (sitem_spec kc' htw hp.len).mono ?_
    rintro u w8 ⟨e8, hu⟩
    rcases hu with ⟨hbad, _⟩ | ⟨x, hx, rfl⟩
    · rw [List.length_map] at hbad; omega
    rw [List.getElem?_map, hg] at hx
    obtain rfl : itP ps[m] = x := by simpa using hx
    rw [sExtract_0, sExtract_1]
    refine sVar S.tze_item_Item S.tsz_item_Item (by decide) rfl rfl (encT_ok.one _) fun b16 w9 hb16 hs9 e9 hk16 => ?_
    have G9 := e8.trans e9
    rw [sFldA_ptr S.tfl_item_Item_Text, sLoad_cell (v := tv (txt ps[m])) S.tcell_string (hk16.cells.at 6 rfl)]
    have ht1 := txt_len ps[m]
    have ht2 := (hp.ok ps[m] (List.getElem_mem hml)).le
    refine (bwrite_spec (hB.ext G9) (by have := G9.size; omega) (by omega)).mono ?_
    rintro u w10 ⟨be10, hB10⟩
    have kc10 : Blk w10 bc (encCu t m (allS ((ps.map itP).take m)) vis) := by
      obtain ⟨T, hT⟩ := kc'.ext G9
      exact ⟨T, (be10.block bc (by omega)).trans hT⟩
    have hw2b : w2.heap.size ≤ bo := by have := F5.size; have := e3.size; have := e4.size; omega
    have E10 : Ext w2 w10 := Below.trans (E7.trans G9) (be10.mono hw2b)
    have hbl10 : bo < w10.heap.size := by have := be10.size; have := G9.size; omega
    refine (snext_spec kc10 (ht.ext E10) hp.len (by rw [List.length_map]; omega)).mono ?_
    rintro u w11 hu
    rcases hu with ⟨hbad, _⟩ | ⟨_, hg11, _, kc11⟩
    · rw [List.length_map] at hbad; omega
    rw [hp.sums (by omega)] at kc11
    refine ⟨ps.length - (m + 1), by omega, rfl, E10.wr hg11 (by rintro _ ⟨⟩; omega), by have := hg11.size; omega, m + 1, rfl, by omega, by omega, kc11, ?_⟩
    have hnew : ((ps.take (m + 1)).drop n).flatten = ((ps.take m).drop n).flatten ++ ps[m] := by
      rw [take_succ_of hg, List.drop_append_of_le_length (by rw [List.length_take]; omega), List.flatten_append]
      simp
    rw [hnew, txt_append]
    exact hB10.wr hg11 (by omega)
  · refine (blen_spec hB).mono ?_
    rintro u w8 ⟨rfl, rfl⟩
    rw [sBin_eql, sIf_dec]
    refine ⟨fun hz => ⟨E2.trans E7, .inr ⟨hin, ?_⟩⟩, fun hnz => ?_⟩
    · have : txt ((ps.flatten.drop a.toNat).take (b.toNat - a.toNat)) = [] := by
        rw [← hpart]
        have : (txt (ps.flatten.take b.toNat)).length - (txt (ps.flatten.take a.toNat)).length = 0 := by omega
        rw [this, List.take_zero]
      rw [this]
    · refine (bstring_spec hB (by omega)).mono ?_
      rintro u w9 ⟨be9, rfl⟩
      have hw2b : w2.heap.size ≤ bo := by have := e3.size; have := e4.size; omega
      have E9 : Ext w2 w9 := Below.trans E7 (be9.mono hw2b)
      rw [sBin_sub _ _ ⟨by omega, by omega⟩, sBin_sub _ _ ⟨by omega, by omega⟩]
      have hla : (((txt (ps.flatten.take a.toNat)).length : Int) - (txt (ps.take n).flatten).length) = (((txt (ps.flatten.take a.toNat)).length - (txt (ps.take n).flatten).length : Nat) : Int) := by omega
      have hlb : (((txt (ps.flatten.take b.toNat)).length : Int) - (txt (ps.take n).flatten).length) = (((txt (ps.flatten.take b.toNat)).length - (txt (ps.take n).flatten).length : Nat) : Int) := by omega
      rw [sSlice_str tstr hla hlb (by omega) (by omega)]
      refine ⟨E2.trans E9, .inr ⟨hin, ?_⟩⟩
      have hall : txt ps.flatten = txt (ps.take n).flatten ++ (txt ((ps.take m).drop n).flatten ++ txt (ps.drop m).flatten) := by
        rw [← txt_append, ← txt_append, ← List.append_assoc, ← hsplit, ← List.flatten_append, List.take_append_drop]
      rw [← hpart, hall]
      congr 2
      generalize (txt (ps.flatten.take a.toNat)).length = A at *
      generalize (txt (ps.flatten.take b.toNat)).length = B at *
      generalize txt (ps.take n).flatten = X at *
      generalize txt ((ps.take m).drop n).flatten = Y at *
      generalize txt (ps.drop m).flatten = Z at *
      have hA : A = X.length + (A - X.length) := by omega
      rw [show B - X.length - (A - X.length) = B - A by omega]
      conv => rhs; arg 1; arg 1; arg 2; rw [hA, ← List.drop_drop, List.drop_left]
      rw [List.drop_append_of_le_length (by omega), List.take_append_of_le_length (by rw [List.length_drop]; omega)]
end Go.Proofs.YtpjmmhbdondknaaDoor
namespace Go.Proofs.YtpjmmhbdondknaaDoor
open Go Go.Lift Go.RowKit Go.Txt

/-- One piece at most, or none is small. -/
def Bg (ps : List (List Int)) : Prop := ps.length ≤ 1 ∨ ∀ p ∈ ps, 8 ≤ p.length
theorem pcs_bg (l : List Int) : Bg (pcs l) := by
  rcases Nat.lt_or_ge l.length 8 with h | h
  · left; rw [pcs_len]; omega
  · exact .inr (pcs_big h)
theorem RpOk.sumE {ps : List (List Int)} (h : RpOk ps) {i : Nat} (hi : i ≤ ps.length) : allS ((ps.map itP).take (i + 1)) = sP (ps.take (i + 1)) := by
  rcases Nat.lt_or_ge i ps.length with h1 | h1
  · exact h.sums h1
  · obtain rfl : i = ps.length := by omega
    rw [List.take_of_length_le (by rw [List.length_map]; omega), List.take_of_length_le (by omega), h.sum]
/-- How many runes are in so many pieces. -/
abbrev tk (ps : List (List Int)) (n : Nat) : Nat := (ps.take n).flatten.length
theorem tk_succ {ps : List (List Int)} {n : Nat} (h : n ≤ ps.length) : tk ps (n + 1) = tk ps n + (pN ps n).length := by
  rcases Nat.lt_or_ge n ps.length with h1 | h1
  · have hg : ps[n]? = some ps[n] := List.getElem?_eq_getElem h1
    unfold tk
    rw [take_succ_of hg, pN_some hg, List.flatten_append, List.length_append]
    simp
  · obtain rfl : n = ps.length := by omega
    unfold tk
    rw [pN_none, List.take_of_length_le (by omega), List.take_of_length_le (Nat.le_refl _)]
    rfl
theorem tk_all (ps : List (List Int)) : tk ps ps.length = ps.flatten.length := by unfold tk; rw [List.take_length]
theorem tk_mono (ps : List (List Int)) {a b : Nat} (h : a ≤ b) : tk ps a ≤ tk ps b := by
  unfold tk
  have : ps.take b = ps.take a ++ (ps.take b).drop a := by
    conv => lhs; rw [← List.take_append_drop a (ps.take b)]
    rw [List.take_take, Nat.min_eq_left h]
  rw [this, List.flatten_append, List.length_append]; omega
theorem tk_le {ps : List (List Int)} {n : Nat} (h : n ≤ ps.length) : tk ps n ≤ ps.flatten.length := by rw [← tk_all]; exact tk_mono ps h
theorem flat_tk (ps : List (List Int)) (n : Nat) : ps.flatten.take (tk ps n) = (ps.take n).flatten ∧ ps.flatten.drop (tk ps n) = (ps.drop n).flatten := by
  have e : ps.flatten = (ps.take n).flatten ++ (ps.drop n).flatten := by rw [← List.flatten_append, List.take_append_drop]
  unfold tk
  constructor
  · conv => lhs; rw [e]
    rw [List.take_left]
  · conv => lhs; rw [e]
    rw [List.drop_left]
/-- The new text of the pieces that are taken out. -/
theorem new_text {ps : List (List Int)} {f l a b : Nat} (more : List Int) (h1 : tk ps f ≤ a) (h3 : b ≤ tk ps l) :
    (ps.take f).flatten ++ (((ps.flatten.drop (tk ps f)).take (a - tk ps f) ++ more ++ (ps.flatten.drop b).take (tk ps l - b)) ++ (ps.drop l).flatten) = ps.flatten.take a ++ more ++ ps.flatten.drop b := by
  have e1 : (ps.take f).flatten ++ (ps.flatten.drop (tk ps f)).take (a - tk ps f) = ps.flatten.take a := by
    rw [← (flat_tk ps f).1]
    conv => rhs; rw [← List.take_append_drop (tk ps f) (ps.flatten.take a)]
    rw [List.take_take, Nat.min_eq_left h1, List.drop_take]
  have e2 : (ps.flatten.drop b).take (tk ps l - b) ++ (ps.drop l).flatten = ps.flatten.drop b := by
    rw [← (flat_tk ps l).2]
    conv => rhs; rw [← List.take_append_drop (tk ps l - b) (ps.flatten.drop b)]
    rw [List.drop_drop]
    congr 2
    omega
  calc (ps.take f).flatten ++ (((ps.flatten.drop (tk ps f)).take (a - tk ps f) ++ more ++ (ps.flatten.drop b).take (tk ps l - b)) ++ (ps.drop l).flatten)
      = ((ps.take f).flatten ++ (ps.flatten.drop (tk ps f)).take (a - tk ps f)) ++ more ++ ((ps.flatten.drop b).take (tk ps l - b) ++ (ps.drop l).flatten) := by simp only [List.append_assoc]
    _ = ps.flatten.take a ++ more ++ ps.flatten.drop b := by rw [e1, e2]
/-- What comes of a text in the place of some. -/
def RepOk (ps : List (List Int)) (a b : Nat) (more : List Int) (ps' : List (List Int)) : Prop := RpOk ps' ∧ ps'.flatten = ps.flatten.take a ++ more ++ ps.flatten.drop b ∧ (Bg ps → Bg ps')
theorem rep_ok {ps : List (List Int)} {f l a b : Nat} {more : List Int} (hp : RpOk ps) (hm : ∀ r ∈ more, okR r) (hf : f ≤ l) (hl : l ≤ ps.length) (h1 : tk ps f ≤ a) (h2 : a ≤ b) (h3 : b ≤ tk ps l) (hlt : f < l ∨ ps = [])
    (hsz : 8 ≤ tk ps l - tk ps f - (b - a) + more.length ∨ (f = 0 ∧ l = ps.length)) (hle : ps.flatten.length - (b - a) + more.length ≤ 20000) :
    RepOk ps a b more (ps.take f ++ pcs ((ps.flatten.drop (tk ps f)).take (a - tk ps f) ++ more ++ (ps.flatten.drop b).take (tk ps l - b)) ++ ps.drop l) := by
  have hfl := tk_le hl
  have hflat : (ps.take f ++ pcs ((ps.flatten.drop (tk ps f)).take (a - tk ps f) ++ more ++ (ps.flatten.drop b).take (tk ps l - b)) ++ ps.drop l).flatten = ps.flatten.take a ++ more ++ ps.flatten.drop b := by
    rw [List.flatten_append, List.flatten_append, pcs_join, List.append_assoc]
    exact new_text more h1 h3
  refine ⟨⟨fun p hp' => ?_, ?_⟩, hflat, fun hb => ?_⟩
  · rcases List.mem_append.1 hp' with h | h
    · rcases List.mem_append.1 h with h | h
      · exact hp.ok p (List.mem_of_mem_take h)
      · refine pcs_ok (fun r hr => ?_) p h
        rcases List.mem_append.1 hr with h | h
        · rcases List.mem_append.1 h with h | h
          · exact hp.runes r (List.mem_of_mem_drop (List.mem_of_mem_take h))
          · exact hm r h
        · exact hp.runes r (List.mem_of_mem_drop (List.mem_of_mem_take h))
    · exact hp.ok p (List.mem_of_mem_drop h)
  · rw [hflat, List.length_append, List.length_append, List.length_take, List.length_drop]; omega
  · by_cases hw : f = 0 ∧ l = ps.length
    · obtain ⟨rfl, rfl⟩ := hw
      rw [List.take_zero, List.nil_append, List.drop_length, List.append_nil]
      exact pcs_bg _
    · have h8 := hsz.resolve_right hw
      have hall : ∀ p ∈ ps, 8 ≤ p.length := by
        rcases hb with h | h
        · exfalso
          rcases hlt with h' | rfl
          · omega
          · simp at hl
            exact hw ⟨by omega, by rw [hl]; rfl⟩
        · exact h
      right
      intro p hp'
      rcases List.mem_append.1 hp' with h | h
      · rcases List.mem_append.1 h with h | h
        · exact hall p (List.mem_of_mem_take h)
        · refine pcs_big ?_ p h
          rw [List.length_append, List.length_append, List.length_take, List.length_take, List.length_drop, List.length_drop]
          omega
      · exact hall p (List.mem_of_mem_drop h)
end Go.Proofs.YtpjmmhbdondknaaDoor
namespace Go.Proofs.YtpjmmhbdondknaaDoor
open Go Go.Lift Go.RowKit Go.Txt

/-- Which pieces are taken out. -/
structure Win (ps : List (List Int)) (a b f l : Nat) : Prop where
  fl : f ≤ l
  le : l ≤ ps.length
  lo : tk ps f ≤ a
  hi : b ≤ tk ps l
  lt : f < l ∨ ps = []
theorem rreplace_spec' {w : World} {v : Value} {ps : List (List Int)} {a b : Int} {s : List UInt8} (hM : Mo w) (h : Rp w v ps) (hp : RpOk ps) (hs : s.length ≤ 1000000) : sCall Tryd.prog S.rope_Rope_Replace.n [v, .int .i64 a, .int .i64 b, tv s] w fun u w' => Ext w w' ∧
    ((¬ InT ps.flatten a b ∧ u = .tuple #[.pointer none, .int .i64 1]) ∨
     (InT ps.flatten a b ∧ 20000 < ps.flatten.length - (b - a) + (runes s).length ∧ u = .tuple #[.pointer none, .int .i64 5]) ∨
     (InT ps.flatten a b ∧ ps.flatten.length - (b - a) + (runes s).length ≤ 20000 ∧ ∃ (bv : Nat) (ps' : List (List Int)), u = .tuple #[.pointer (some ⟨bv, 0, none⟩), .int .i64 0] ∧ Rp w' (.pointer (some ⟨bv, 0, none⟩)) ps' ∧ RepOk ps a.toNat b.toNat (runes s) ps')) := by
  refine S.rope_Rope_Replace.call ?_
  unfold S.rope_Rope_Replace
  have hle := hp.le
  have hpn := hp.n
  have hrl := runes_len s
  have hmx : maxLen = 9223372036854775807 := rfl
  rw [sBin_lss, sIf_dec]
  refine ⟨fun h1 => ⟨Ext.refl w, .inl ⟨fun h2 => by omega, rfl⟩⟩, fun h1 => ?_⟩
  rw [sBin_lss, sIf_dec]
  refine ⟨fun h2 => ⟨Ext.refl w, .inl ⟨fun h2 => by omega, rfl⟩⟩, fun h2 => ?_⟩
  refine (rrunes_spec h hp).mono ?_
  rintro u w1 ⟨e1, rfl⟩
  rw [sBin_gtr, sIf_dec]
  refine ⟨fun h3 => ⟨e1, .inl ⟨fun h2 => by omega, rfl⟩⟩, fun h3 => ?_⟩
  have hin : InT ps.flatten a b := ⟨by omega, by omega, by omega⟩
  refine (udecode_spec s (by omega)).mono ?_
  rintro q w2 ⟨e2, hq⟩
  have E2 := e1.trans e2
  refine (rrunes_spec (h.ext E2) hp).mono ?_
  rintro u w3 ⟨e3, rfl⟩
  have E3 := E2.trans e3
  have hqs := (hq.ext e3).sl encRn_ok
  rw [sBin_sub _ _ ⟨by omega, by omega⟩, sBin_sub _ _ ⟨by omega, by omega⟩, sLen_sl S.tel_L_int32 hqs, sBin_add _ _ ⟨by omega, by omega⟩, sBin_gtr, sIf_dec]
  refine ⟨fun h4 => ⟨E3, .inr (.inl ⟨hin, h4, rfl⟩)⟩, fun h4 => ?_⟩
  obtain ⟨A, rfl⟩ : ∃ A : Nat, a = A := ⟨a.toNat, by omega⟩
  obtain ⟨B, rfl⟩ : ∃ B : Nat, b = B := ⟨b.toNat, by omega⟩
  refine (rfind_spec' (dim := 1) (at_ := A) (bias := 0) (h.ext E3) hp).mono ?_
  rintro u w4 ⟨e4, hu⟩
  rcases hu with ⟨hna, _⟩ | ⟨_, n, bc, vis, t, hf, hn, rfl, hbc, hkc, ht⟩
  · exact absurd ((ask_place hp (.inl rfl)).2 ⟨by omega, by omega⟩) hna
  have hz : ∀ i, i ≤ ps.length → szA (ps.map itP) 1 i = tk ps i := fun i hi => by
    unfold szA; rw [hp.sums hi]; rfl
  have hlow : tk ps n ≤ A := by
    rcases Nat.eq_zero_or_pos n with rfl | hpos
    · simp [tk]
    · have := hf.no (n - 1) (by omega)
      rw [Nat.sub_add_cancel hpos, hz n hn] at this
      unfold Rch at this
      omega
  have hnl : n < ps.length ∨ ps = [] := by
    rcases Nat.lt_or_ge n ps.length with hlt | hge
    · exact .inl hlt
    · right
      rcases Nat.eq_zero_or_pos ps.length with h0 | h0
      · exact List.eq_nil_of_length_eq_zero h0
      · exfalso
        have := hf.no (ps.length - 1) (by omega)
        rw [Nat.sub_add_cancel h0, hz _ (Nat.le_refl _), tk_all] at this
        unfold Rch at this
        omega
  rw [sExtract_0, sExtract_1, sExtract_2]
  refine sVar (vs := encSo (sP (ps.take n)) (itP (pN ps n)) 0) S.tze_rope_spot S.tsz_rope_spot (by decide) rfl rfl (encSo_one _ _ _) fun b11 w5 hb11 hs5 e5 hk11 => ?_
  have G5 := e4.trans e5
  refine (sstart_spec (hkc.ext e5)).mono ?_
  rintro u w6 ⟨e6, rfl⟩
  rw [sFld_cell (v := .int .i64 (ps.take n).length) S.tfd_item_Sum_N S.tcell_int rfl]
  refine (sstart_spec ((hkc.ext e5).ext e6)).mono ?_
  rintro u w7 ⟨e7, rfl⟩
  have G7 : Ext w3 w7 := (G5.trans e6).trans e7
  rw [sFld_agg (n := 3) S.tfd_item_Sum_D S.tagg_A3_int, sIdx_cell (i := 1) (z := 1) (v := .int .i64 (tk ps n)) S.tar_A3_int S.tcell_int S.tsz_int (by omega) rfl rfl]
  have hnn : (ps.take n).length = n := by rw [List.length_take]; omega
  rw [hnn]
  refine LoopS.ix (fun i us w8 => us = [] ∧ Ext w3 w8 ∧ ∃ m : Nat, i = ps.length - m ∧ n ≤ m ∧ m ≤ ps.length ∧ (m < ps.length ∨ ps = []) ∧ Blk w8 bc (encCu t m (sP (ps.take m)) vis))
    ⟨_, rfl, G7, n, rfl, Nat.le_refl _, hn, hnl, (((hkc.ext e5).ext e6).ext e7)⟩ ?_
  rintro i us vs w8 ⟨rfl, G8, m, rfl, hnm, hm, hml, kc⟩
  unfold S.rope_Rope_Replace_L1
  have kc' : Blk w8 bc (encCu t m (allS ((ps.map itP).take m)) vis) := by rw [hp.sums hm]; exact kc
  have hend : ∀ w9, Ext w8 w9 → sCall Tryd.prog S.seek_Cursor_End.n [.pointer (some ⟨bc, 0, none⟩)] w9 fun u w' => Ext w9 w' ∧ u = .agg (encS (sP (ps.take (m + 1)))).toArray := fun w9 e9 =>
    (send_spec (kc'.ext e9) (ht.ext (G8.trans e9)) hp.len (by rw [List.length_map]; exact hm)).mono fun u w' hq => ⟨hq.1, by rw [hq.2, hp.sumE hm]⟩
  have hdE : ∀ {w9 : World} {K : K1}, sFld Tryd.prog S.T.item_Sum (.agg (encS (sP (ps.take (m + 1)))).toArray) 1 w9 (fun x w => sIdx Tryd.prog S.T.A3_int x (.int .i64 1) w K) = K (.int .i64 (tk ps (m + 1))) w9 := fun {w9 K} => by
    rw [sFld_agg (n := 3) S.tfd_item_Sum_D S.tagg_A3_int, sIdx_cell (i := 1) (z := 1) (v := .int .i64 (tk ps (m + 1))) S.tar_A3_int S.tcell_int S.tsz_int (by omega) rfl rfl]
  refine (hend w8 (Ext.refl _)).mono ?_
  rintro u w9 ⟨e9, rfl⟩
  rw [hdE, sBin_lss, sIf_dec]
  refine ⟨fun hlt => ?_, fun hge => ?_⟩
  · have hm1 : m + 1 < ps.length := by
      rcases Nat.lt_or_ge (m + 1) ps.length with h5 | h5
      · exact h5
      · exfalso
        have h6 := tk_mono ps h5
        rw [tk_all] at h6
        omega
    refine (snext_spec (kc'.ext e9) (ht.ext (G8.trans e9)) hp.len (by rw [List.length_map]; exact hm)).mono ?_
    rintro u w10 hu
    rcases hu with ⟨hbad, _⟩ | ⟨_, hg10, _, kc10⟩
    · rw [List.length_map] at hbad; omega
    rw [hp.sums (by omega)] at kc10
    exact ⟨ps.length - (m + 1), by omega, rfl, (G8.trans e9).wr hg10 (by rintro _ ⟨⟩; omega), m + 1, rfl, by omega, by omega, .inl hm1, kc10⟩
  · refine (hend w9 e9).mono ?_
    rintro u w10 ⟨e10, rfl⟩
    rw [sFld_cell (v := .int .i64 (ps.take (m + 1)).length) S.tfd_item_Sum_N S.tcell_int rfl]
    refine (hend w10 (e9.trans e10)).mono ?_
    rintro u w11 ⟨e11, rfl⟩
    have F11 := (e9.trans e10).trans e11
    rw [hdE]
    have G11 := G8.trans F11
    refine (rtree_spec0 (h.ext E3) G11).mono ?_
    rintro t2 w11' ⟨rfl, ht2⟩
    refine (tsum_spec (ht2.ext G11)).mono ?_
    rintro u w12 ⟨e12, rfl⟩
    have G12 := G11.trans e12
    rw [hp.sum, sFld_cell (v := .int .i64 ps.length) S.tfd_item_Sum_N S.tcell_int rfl]
    have hL : (ps.take (m + 1)).length ≤ ps.length ∧ n ≤ (ps.take (m + 1)).length ∧ (n < (ps.take (m + 1)).length ∨ ps = []) ∧ tk ps (ps.take (m + 1)).length = tk ps (m + 1) := by
      rw [List.length_take]
      refine ⟨by omega, by omega, ?_, ?_⟩
      · rcases hml with h5 | h5
        · left; omega
        · exact .inr h5
      · rcases Nat.lt_or_ge m ps.length with h5 | h5
        · rw [Nat.min_eq_left (by omega)]
        · rw [Nat.min_eq_right (by omega)]
          unfold tk
          rw [List.take_of_length_le (Nat.le_refl _), List.take_of_length_le (by omega)]
    obtain ⟨L1, L2, L3, L4⟩ := hL
    generalize (ps.take (m + 1)).length = L at L1 L2 L3 L4
    rw [← L4] at hge ⊢
    have hW0 : Win ps A B n L := ⟨L2, L1, hlow, by omega, L3⟩
    have kc12 : Blk w12 bc (encCu t m (sP (ps.take m)) vis) := (kc.ext F11).ext e12
    have hM3 := hM.ext E3
    have hR3 := h.ext E3
    refine JoinS.intro (fun us w' => Ext w3 w' ∧ ∃ f l : Nat, us = [.int .i64 l, .int .i64 (tk ps l), .int .i64 f, .int .i64 (tk ps f)] ∧ Win ps A B f l ∧ (8 ≤ tk ps l - tk ps f - (B - A) + (runes s).length ∨ (f = 0 ∧ l = ps.length))) ?_ ?_
    · refine LoopS.ix (fun i us w13 => Ext w3 w13 ∧ ∃ f l m vis : Nat, i = f + (ps.length - l) ∧ us = [.int .i64 l, .int .i64 (tk ps l), .int .i64 f, .int .i64 (tk ps f)] ∧ Win ps A B f l ∧ Blk w13 bc (encCu t m (sP (ps.take m)) vis))
        ⟨_, G12, n, L, m, vis, rfl, rfl, hW0, kc12⟩ ?_
      rintro i us vs w13 ⟨G13, f, l, m', vis', rfl, rfl, hW, kc13⟩
      unfold S.rope_Rope_Replace_L3
      have hl1 := tk_le hW.le
      have hl2 := tk_mono ps hW.fl
      have hl3 := hW.lo
      have hl4 := hW.hi
      have hl5 := hW.le
      have hl6 := hW.fl
      rw [Go.Lift.hd, Go.Lift.tl, Go.Lift.hd, Go.Lift.tl, Go.Lift.hd, Go.Lift.tl, Go.Lift.hd]
      refine JoinS.intro (fun us w' => w' = w13 ∧ us = [] ∧ (0 < f ∨ l < ps.length)) ?_ ?_
      · rw [sBin_sub _ _ ⟨by omega, by omega⟩, sBin_sub _ _ ⟨by omega, by omega⟩, sBin_sub _ _ ⟨by omega, by omega⟩, sLen_sl S.tel_L_int32 (hqs.ext G13), sBin_add _ _ ⟨by omega, by omega⟩, sBin_lss, sIf_dec]
        refine ⟨fun h8 => ?_, fun h8 => ⟨G13, f, l, rfl, hW, .inl (by omega)⟩⟩
        rw [sBin_gtr, sIf_dec]
        refine ⟨fun hf0 => ⟨rfl, rfl, .inl (by omega)⟩, fun hf0 => ?_⟩
        rw [sBin_lss, sIf_dec]
        exact ⟨fun hll => ⟨rfl, rfl, .inr (by omega)⟩, fun hll => ⟨G13, f, l, rfl, hW, .inr ⟨by omega, by omega⟩⟩⟩
      rintro us vs w13 ⟨rfl, rfl, hmore⟩
      unfold S.rope_Rope_Replace_J4
      have hto : ∀ k : Nat, k ≤ ps.length → sCall Tryd.prog S.seek_Cursor_To.n [.pointer (some ⟨bc, 0, none⟩), .int .i64 3, .int .i64 k, .int .i64 1] w13 fun u w' => Ext w3 w' ∧ ∃ vis : Nat, Blk w' bc (encCu t k (sP (ps.take k)) vis) := fun k hk => by
        have hk' : k ≤ (ps.map itP).length := by rw [List.length_map]; exact hk
        refine (sto_spec (dim := 3) (v := k) (bias := 1) kc13 (ht.ext G13) (itPs_ok hp.ok) hp.len).mono ?_
        rintro u w14 hu
        rcases hu with ⟨hna, _⟩ | ⟨_, hg14, _, k', vis'', hf', kc14⟩
        · exact absurd (ask3 hk') hna
        · obtain rfl := fnd3n hk' hf'
          rw [hp.sums hk] at kc14
          exact ⟨G13.wr hg14 (by rintro _ ⟨⟩; omega), vis'', kc14⟩
      rw [sBin_lss, sIf_dec]
      refine ⟨fun hll => ?_, fun hll => ?_⟩
      · refine (hto l hl5).mono ?_
        rintro u w14 ⟨G14, vis2, kc14⟩
        have kc14' : Blk w14 bc (encCu t l (allS ((ps.map itP).take l)) vis2) := by rw [hp.sums hl5]; exact kc14
        have hend2 : ∀ w9, Ext w14 w9 → sCall Tryd.prog S.seek_Cursor_End.n [.pointer (some ⟨bc, 0, none⟩)] w9 fun u w' => Ext w9 w' ∧ u = .agg (encS (sP (ps.take (l + 1)))).toArray := fun w9 e9 =>
          (send_spec (kc14'.ext e9) (ht.ext (G14.trans e9)) hp.len (by rw [List.length_map]; exact hl5)).mono fun u w' hq => ⟨hq.1, by rw [hq.2, hp.sumE hl5]⟩
        refine (hend2 w14 (Ext.refl _)).mono ?_
        rintro u w15 ⟨e15, rfl⟩
        rw [sFld_cell (v := .int .i64 (ps.take (l + 1)).length) S.tfd_item_Sum_N S.tcell_int rfl]
        refine (hend2 w15 e15).mono ?_
        rintro u w16 ⟨e16, rfl⟩
        rw [sFld_agg (n := 3) S.tfd_item_Sum_D S.tagg_A3_int, sIdx_cell (i := 1) (z := 1) (v := .int .i64 (tk ps (l + 1))) S.tar_A3_int S.tcell_int S.tsz_int (by omega) rfl rfl]
        have hlen : (ps.take (l + 1)).length = l + 1 := by rw [List.length_take]; omega
        rw [hlen]
        have hmono := tk_mono ps (show l ≤ l + 1 by omega)
        exact ⟨f + (ps.length - (l + 1)), by omega, (G14.trans e15).trans e16, f, l + 1, l, vis2, rfl, rfl, ⟨by omega, by omega, hl3, by omega, .inl (by omega)⟩, (kc14.ext e15).ext e16⟩
      · obtain ⟨g, rfl⟩ : ∃ g, f = g + 1 := ⟨f - 1, by omega⟩
        rw [sBin_sub _ _ ⟨by omega, by omega⟩]
        have hg1 : ((g + 1 : Nat) : Int) - 1 = (g : Nat) := by omega
        rw [hg1]
        refine (hto g (by omega)).mono ?_
        rintro u w14 ⟨G14, vis2, kc14⟩
        refine (sstart_spec kc14).mono ?_
        rintro u w15 ⟨e15, rfl⟩
        rw [sFld_cell (v := .int .i64 (ps.take g).length) S.tfd_item_Sum_N S.tcell_int rfl]
        refine (sstart_spec (kc14.ext e15)).mono ?_
        rintro u w16 ⟨e16, rfl⟩
        rw [sFld_agg (n := 3) S.tfd_item_Sum_D S.tagg_A3_int, sIdx_cell (i := 1) (z := 1) (v := .int .i64 (tk ps g)) S.tar_A3_int S.tcell_int S.tsz_int (by omega) rfl rfl]
        have hlen : (ps.take g).length = g := by rw [List.length_take]; omega
        rw [hlen]
        have hmono := tk_mono ps (show g ≤ g + 1 by omega)
        exact ⟨g + (ps.length - l), by omega, (G14.trans e15).trans e16, g, l, g, vis2, rfl, rfl, ⟨by omega, hl5, by omega, hl4, .inl (by omega)⟩, (kc14.ext e15).ext e16⟩
    rintro us vs w13 ⟨G13, f, l, rfl, hW, hsz⟩
    unfold S.rope_Rope_Replace_J2
    have hl1 := tk_le hW.le
    have hl2 := tk_mono ps hW.fl
    have hl3 := hW.lo
    have hl4 := hW.hi
    have hl5 := hW.le
    have hl6 := hW.fl
    rw [Go.Lift.hd, Go.Lift.tl, Go.Lift.hd, Go.Lift.tl, Go.Lift.hd, Go.Lift.tl, Go.Lift.hd]
    have hX1 : InT ps.flatten (tk ps f : Nat) A := ⟨by omega, by omega, by omega⟩
    have hY1 : InT ps.flatten B (tk ps l : Nat) := ⟨by omega, by omega, by omega⟩
    refine (rslice_spec (a := (tk ps f : Nat)) (b := A) (hR3.ext G13) hp).mono ?_
    rintro u w14 ⟨e14, hu⟩
    rcases hu with ⟨hbad, _⟩ | ⟨_, rfl⟩
    · exact absurd hX1 hbad
    rw [sExtract_0, sExtract_1]
    have G14 := G13.trans e14
    refine (rslice_spec (a := B) (b := (tk ps l : Nat)) (hR3.ext G14) hp).mono ?_
    rintro u w15 ⟨e15, hu⟩
    rcases hu with ⟨hbad, _⟩ | ⟨_, rfl⟩
    · exact absurd hY1 hbad
    rw [sExtract_0, sExtract_1]
    have G15 := G14.trans e15
    simp only [Int.toNat_natCast]
    have hres := rep_ok (more := runes s) hp (runes_ok s) hW.fl hW.le hW.lo (by omega : A ≤ B) hW.hi hW.lt hsz (by omega)
    generalize hXd : (ps.flatten.drop (tk ps f)).take (A - tk ps f) = X at *
    generalize hYd : (ps.flatten.drop B).take (tk ps l - B) = Y at *
    have hXo : ∀ r ∈ X, okR r := fun r hr => hp.runes r (by rw [← hXd] at hr; exact List.mem_of_mem_drop (List.mem_of_mem_take hr))
    have hYo : ∀ r ∈ Y, okR r := fun r hr => hp.runes r (by rw [← hYd] at hr; exact List.mem_of_mem_drop (List.mem_of_mem_take hr))
    have hXl : X.length ≤ 20000 := by rw [← hXd, List.length_take, List.length_drop]; omega
    have hYl : Y.length ≤ 20000 := by rw [← hYd, List.length_take, List.length_drop]; omega
    have htX := txt_len X
    have htY := txt_len Y
    refine (udecode_spec (txt X) (by omega)).mono ?_
    rintro x w16 ⟨e16, hx⟩
    rw [runes_of hXo] at hx
    have G16 := G15.trans e16
    refine sAppend_row S.tel_L_int32 S.tsz_int32 (by decide) S.tze_int32 rfl encRn_ok hx e16.size (hqs.ext G16) (by omega) (by rw [S.tby_int32]; omega) fun x2 w17 hx2 hg17 _ => ?_
    have e17 : Ext w15 w17 := e16.wr hg17 fun g hg => (hx.lt g hg).1
    have G17 := G15.trans e17
    refine (rtree_spec0 hR3 G17).mono ?_
    rintro t3 w17' ⟨rfl, ht3⟩
    refine (udecode_spec (txt Y) (by omega)).mono ?_
    rintro y w18 ⟨e18, hy⟩
    rw [runes_of hYo] at hy
    have G18 := G17.trans e18
    have hx2l : (X ++ runes s).length ≤ 1020000 := by rw [List.length_append]; omega
    refine sAppend_row S.tel_L_int32 S.tsz_int32 (by decide) S.tze_int32 rfl encRn_ok (hx2.ext e18) (by have := e17.size; have := e18.size; omega) (hy.sl encRn_ok) (by omega) (by rw [S.tby_int32]; omega) fun x3 w19 hx3 hg19 _ => ?_
    have G19 : Ext w3 w19 := G18.wr hg19 fun g hg => by have := (hx2.lt g hg).1; have := G15.size; omega
    have hnl2 : (X ++ runes s ++ Y).length ≤ 1000000 := by
      have hxx : X.length = A - tk ps f := by rw [← hXd, List.length_take, List.length_drop]; omega
      have hyy : Y.length = tk ps l - B := by rw [← hYd, List.length_take, List.length_drop]; omega
      rw [List.length_append, List.length_append]; omega
    refine (cut_spec (hM3.ext G19) (hx3.sl encRn_ok) hnl2).mono ?_
    rintro c w20 ⟨e20, hc⟩
    have G20 := G19.trans e20
    have hco := itPs_ok (pcs_ok (l := X ++ runes s ++ Y) fun r hr => by
      rcases List.mem_append.1 hr with h | h
      · rcases List.mem_append.1 h with h | h
        · exact hXo r h
        · exact runes_ok s r h
      · exact hYo r h)
    refine (treplace_spec (a := f) (b := l) (ht3.ext G20) (by rw [List.length_map]; omega) (hc.sl encT_ok)).mono ?_
    rintro u w21 ⟨e21, hu⟩
    have G21 := G20.trans e21
    have hir : InR (ps.map itP) f l := ⟨by omega, by omega, by rw [List.length_map]; omega⟩
    have hpl : (pcs (X ++ runes s ++ Y)).length ≤ 1300 := by
      have hxx : X.length = A - tk ps f := by rw [← hXd, List.length_take, List.length_drop]; omega
      have hyy : Y.length = tk ps l - B := by rw [← hYd, List.length_take, List.length_drop]; omega
      rw [pcs_len, List.length_append, List.length_append]; omega
    rcases hu with ⟨hbad, _⟩ | ⟨_, hbad, _⟩ | ⟨_, _, hbad, _⟩ | ⟨_, _, _, hbad, _⟩ | ⟨_, _, _, _, z, rfl, hzt⟩
    · exact absurd hir hbad
    · rw [List.length_map] at hbad; omega
    · exact absurd hco hbad
    · rw [List.length_map, List.length_map] at hbad; omega
    rw [sExtract_0, sExtract_1, sBin_neq, sIf_not]
    refine ⟨fun h => absurd rfl h, fun _ => ?_⟩
    obtain ⟨bz, rz, rfl, hzt'⟩ := hzt
    have hzt : Tp w21 (.pointer (some ⟨bz, 0, none⟩)) ((ps.take f ++ pcs (X ++ runes s ++ Y) ++ ps.drop l).map itP) := by
      rw [List.map_append, List.map_append, List.map_take, List.map_drop]
      exact Tq.tp ⟨bz, rz, rfl, hzt'⟩
    rw [sBuild_of (cs := [.pointer (some ⟨bz, 0, none⟩)]) (lp := [(0, [.pointer (some ⟨bz, 0, none⟩)])]) S.tze_rope_Rope S.tpl_rope_Rope rfl rfl]
    refine sBox_new (cs := [.pointer (some ⟨bz, 0, none⟩)]) rfl fun b2 w22 hb2 hs22 e22 hk22 => ?_
    refine ⟨E3.trans (G21.trans e22), .inr (.inr ⟨hin, by omega, b2, _, rfl, .inr ⟨b2, _, rfl, hk22.cells, hzt.ext e22⟩, ?_⟩)⟩
    exact hres
end Go.Proofs.YtpjmmhbdondknaaDoor
