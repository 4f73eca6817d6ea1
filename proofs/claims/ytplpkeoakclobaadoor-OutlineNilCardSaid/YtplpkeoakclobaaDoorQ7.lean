/- Ropes: parts of their texts. Conditions: right pieces. Ropes: a text in the place of some. Conditions: the table of sizes in memory; right pieces. Ropes: a text in the place of some: the walk. Conditions: the table of sizes in memory; right pieces. -/
import Derived.Test.YtplpkeoakclobaaDoorQ4
namespace Go.Proofs.YtplpkeoakclobaaDoor
open Go Go.Lift Go.RowKit Go.Txt

theorem txt_part {l : List Int} {a b : Nat} (h : a ≤ b) : ((txt l).drop (txt (l.take a)).length).take ((txt (l.take b)).length - (txt (l.take a)).length) = txt ((l.drop a).take (b - a)) := by
  have e1 : l.take b = l.take a ++ (l.drop a).take (b - a) := by
    conv => lhs; rw [← List.take_append_drop a (l.take b)]
    rw [List.take_take, Nat.min_eq_left h, List.drop_take]
  have e2 : txt l = txt (l.take a) ++ txt (l.drop a) := by rw [← txt_append, List.take_append_drop]
  have e3 : (txt (l.take b)).length - (txt (l.take a)).length = (txt ((l.drop a).take (b - a))).length := by
    rw [e1, txt_append, List.length_append]; omega
  rw [e3]
  conv => lhs; arg 2; rw [e2, List.drop_left]
  exact txt_take (l.drop a) (b - a)
abbrev InT (l : List Int) (a b : Int) : Prop := 0 ≤ a ∧ a ≤ b ∧ b ≤ l.length
theorem Plc.low {ps : List (List Int)} {at_ : Int} {n k : Nat} (h : Plc ps at_ n k) : (txt (ps.take n).flatten).length ≤ (txt (ps.flatten.take at_.toNat)).length := by
  obtain ⟨_, _, t2, _⟩ := h.take
  rw [t2, txt_append, List.length_append]; omega
theorem rslice_spec {w : World} {v : Value} {ps : List (List Int)} {a b : Int} (h : Rp w v ps) (hp : RpOk ps) : sCall Tryd.prog S.rope_Rope_Slice.n [v, .int .i64 a, .int .i64 b] w fun u w' => Ext w w' ∧
    ((¬ InT ps.flatten a b ∧ u = .tuple #[tv [], .int .i64 1]) ∨ (InT ps.flatten a b ∧ u = .tuple #[tv (txt ((ps.flatten.drop a.toNat).take (b.toNat - a.toNat))), .int .i64 0])) := by
  refine S.rope_Rope_Slice.call ?_
  unfold S.rope_Rope_Slice
  have hle := hp.le
  have hpn := hp.n
  refine (rbyteat_spec (at_ := a) h hp).mono ?_
  rintro u w1 ⟨e1, hu⟩
  rcases hu with ⟨hna, rfl⟩ | ⟨ha, rfl⟩
  · rw [sExtract_0, sExtract_1, sBin_neq, sIf_not]
    exact ⟨fun _ => ⟨e1, .inl ⟨fun h => hna ⟨h.1, by omega⟩, rfl⟩⟩, fun h => absurd h (by decide)⟩
  rw [sExtract_0, sExtract_1, sBin_neq, sIf_not]
  refine ⟨fun h => absurd rfl h, fun _ => ?_⟩
  rw [sBin_lss, sIf_dec]
  refine ⟨fun hlt => ⟨e1, .inl ⟨fun h => by omega, rfl⟩⟩, fun hab => ?_⟩
  refine (rbyteat_spec (at_ := b) (h.ext e1) hp).mono ?_
  rintro u w2 ⟨e2, hu⟩
  have E2 := e1.trans e2
  rcases hu with ⟨hnb, rfl⟩ | ⟨hb, rfl⟩
  · rw [sExtract_0, sExtract_1, sBin_neq, sIf_not]
    exact ⟨fun _ => ⟨E2, .inl ⟨fun h => hnb ⟨by omega, h.2.2⟩, rfl⟩⟩, fun h => absurd h (by decide)⟩
  rw [sExtract_0, sExtract_1, sBin_neq, sIf_not]
  refine ⟨fun h => absurd rfl h, fun _ => ?_⟩
  have hin : InT ps.flatten a b := ⟨ha.1, by omega, hb.2⟩
  refine (rfind_spec' (dim := 1) (at_ := a) (bias := 1) (h.ext E2) hp).mono ?_
  rintro u w3 ⟨e3, hu⟩
  have E3 := E2.trans e3
  rcases hu with ⟨hna, _⟩ | ⟨_, n, bc, vis, t, hf, hn, rfl, hbc, hkc, ht⟩
  · exact absurd ((ask_place hp (.inr rfl)).2 ha) hna
  obtain ⟨k, hk⟩ := fnd_plc hp ha.1 ha.2 hf hn
  have hlow := hk.low
  obtain ⟨p1, p2, p3⟩ := pre_le hp hn
  have htf := txt_len ps.flatten
  have hmono := txt_mono ps.flatten (show a.toNat ≤ b.toNat by omega)
  have htb := txt_mono ps.flatten (show b.toNat ≤ ps.flatten.length by omega)
  rw [List.take_length] at htb
  have hpart := txt_part (l := ps.flatten) (show a.toNat ≤ b.toNat by omega)
  rw [sExtract_0, sExtract_1, sExtract_2]
  refine sVar (vs := encSo (sP (ps.take n)) (itP (pN ps n)) 0) S.tze_rope_spot S.tsz_rope_spot (by decide) rfl rfl (encSo_one _ _ _) fun b11 w4 hb11 hs4 e4 hk11 => ?_
  refine sAlloc_newT S.tze_strings_Builder fun bo w5 hbo hs5 e5 hko => ?_
  have F5 := e4.trans e5
  have E5 := e3.trans F5
  have lc := hkc.lt
  have s3 := E2.size
  have hB0 : Bd w5 bo bo [] := .inl ⟨Nat.le_refl _, .slice none 0 0, hko, bytes_own.2 (Own.nil _ _ _ _ _), by intro e; cases e⟩
  refine (sstart_spec (hkc.ext F5)).mono ?_
  rintro u w6 ⟨e6, rfl⟩
  have E6 := E5.trans e6
  rw [sFld_agg (n := 3) S.tfd_item_Sum_D S.tagg_A3_int, sIdx_cell (i := 0) (z := 0) (v := .int .i64 (sP (ps.take n)).d0) S.tar_A3_int S.tcell_int S.tsz_int (by omega) rfl rfl]
  have hd0 : (sP (ps.take n)).d0 = (txt (ps.take n).flatten).length := rfl
  rw [hd0]
  have hbol : bo < w6.heap.size := by have := e6.size; omega
  refine LoopS.ix (fun i us w7 => us = [] ∧ Ext w2 w7 ∧ bo < w7.heap.size ∧ ∃ m : Nat, i = ps.length - m ∧ n ≤ m ∧ m ≤ ps.length ∧ Blk w7 bc (encCu t m (sP (ps.take m)) vis) ∧ Bd w7 bo bo (txt ((ps.take m).drop n).flatten))
    ⟨_, rfl, E6, hbol, n, rfl, Nat.le_refl _, hn, (hkc.ext F5).ext e6, by
      rw [List.drop_eq_nil_of_le (by rw [List.length_take]; omega)]
      exact hB0.ext e6⟩ ?_
  rintro i us vs w7 ⟨rfl, E7, hbl, m, rfl, hnm, hm, kc, hB⟩
  unfold S.rope_Rope_Slice_L1
  have hsplit : (ps.take m).flatten = (ps.take n).flatten ++ ((ps.take m).drop n).flatten := by
    rw [← List.flatten_append]
    congr 1
    conv => lhs; rw [← List.take_append_drop n (ps.take m)]
    rw [List.take_take, Nat.min_eq_left hnm]
  have hmid : (txt (ps.take m).flatten).length = (txt (ps.take n).flatten).length + (txt ((ps.take m).drop n).flatten).length := by
    rw [hsplit, txt_append, List.length_append]
  obtain ⟨r1, r2, r3⟩ := pre_le hp hm
  refine (blen_spec hB).mono ?_
  rintro u w7' ⟨rfl, rfl⟩
  rw [sBin_add _ _ ⟨by omega, by omega⟩, sBin_lss, sIf_dec]
  refine ⟨fun hlt => ?_, fun hge => ?_⟩
  · have hml : m < ps.length := by
      rcases Nat.lt_or_ge m ps.length with h3 | h3
      · exact h3
      · exfalso
        obtain rfl : m = ps.length := by omega
        rw [List.take_length] at hmid hlt
        omega
    have hg : ps[m]? = some ps[m] := List.getElem?_eq_getElem hml
    have kc' : Blk w7' bc (encCu t m (allS ((ps.map itP).take m)) vis) := by rw [hp.sums hm]; exact kc
    have htw : Tp w7' t (ps.map itP) := ht.ext E7
    refine (sitem_spec kc' htw hp.len).mono ?_
    rintro u w8 ⟨e8, hu⟩
    rcases hu with ⟨hbad, _⟩ | ⟨x, hx, rfl⟩
    · rw [List.length_map] at hbad; omega
    rw [List.getElem?_map, hg] at hx
    obtain rfl : itP ps[m] = x := by simpa using hx
    rw [sExtract_0, sExtract_1]
    refine sVar S.tze_item_Item S.tsz_item_Item (by decide) rfl rfl (encT_ok.one _) fun b16 w9 hb16 hs9 e9 hk16 => ?_
    have G9 := e8.trans e9
    rw [sFldA_ptr S.tfl_item_Item_Text, sLoad_cell (v := tv (txt ps[m])) S.tcell_string (hk16.cells.at 6 rfl)]
    have ht1 := txt_len ps[m]
    have ht2 := (hp.ok ps[m] (List.getElem_mem hml)).le
    refine (bwrite_spec (hB.ext G9) (by have := G9.size; omega) (by omega)).mono ?_
    rintro u w10 ⟨be10, hB10⟩
    have kc10 : Blk w10 bc (encCu t m (allS ((ps.map itP).take m)) vis) := by
      obtain ⟨T, hT⟩ := kc'.ext G9
      exact ⟨T, (be10.block bc (by omega)).trans hT⟩
    have hw2b : w2.heap.size ≤ bo := by have := F5.size; have := e3.size; have := e4.size; omega
    have E10 : Ext w2 w10 := Below.trans (E7.trans G9) (be10.mono hw2b)
    have hbl10 : bo < w10.heap.size := by have := be10.size; have := G9.size; omega
    refine (snext_spec kc10 (ht.ext E10) hp.len (by rw [List.length_map]; omega)).mono ?_
    rintro u w11 hu
    rcases hu with ⟨hbad, _⟩ | ⟨_, hg11, _, kc11⟩
    · rw [List.length_map] at hbad; omega
    rw [hp.sums (by omega)] at kc11
    refine ⟨ps.length - (m + 1), by omega, rfl, E10.wr hg11 (by rintro _ ⟨⟩; omega), by have := hg11.size; omega, m + 1, rfl, by omega, by omega, kc11, ?_⟩
    have hnew : ((ps.take (m + 1)).drop n).flatten = ((ps.take m).drop n).flatten ++ ps[m] := by
      rw [take_succ_of hg, List.drop_append_of_le_length (by rw [List.length_take]; omega), List.flatten_append]
      simp
    rw [hnew, txt_append]
    exact hB10.wr hg11 (by omega)
  · refine (blen_spec hB).mono ?_
    rintro u w8 ⟨rfl, rfl⟩
    rw [sBin_eql, sIf_dec]
    refine ⟨fun hz => ⟨E2.trans E7, .inr ⟨hin, ?_⟩⟩, fun hnz => ?_⟩
    · have : txt ((ps.flatten.drop a.toNat).take (b.toNat - a.toNat)) = [] := by
        rw [← hpart]
        have : (txt (ps.flatten.take b.toNat)).length - (txt (ps.flatten.take a.toNat)).length = 0 := by omega
        rw [this, List.take_zero]
      rw [this]
    · refine (bstring_spec hB (by omega)).mono ?_
      rintro u w9 ⟨be9, rfl⟩
      have hw2b : w2.heap.size ≤ bo := by have := e3.size; have := e4.size; omega
      have E9 : Ext w2 w9 := Below.trans E7 (be9.mono hw2b)
      rw [sBin_sub _ _ ⟨by omega, by omega⟩, sBin_sub _ _ ⟨by omega, by omega⟩]
      have hla : (((txt (ps.flatten.take a.toNat)).length : Int) - (txt (ps.take n).flatten).length) = (((txt (ps.flatten.take a.toNat)).length - (txt (ps.take n).flatten).length : Nat) : Int) := by omega
      have hlb : (((txt (ps.flatten.take b.toNat)).length : Int) - (txt (ps.take n).flatten).length) = (((txt (ps.flatten.take b.toNat)).length - (txt (ps.take n).flatten).length : Nat) : Int) := by omega
      rw [sSlice_str tstr hla hlb (by omega) (by omega)]
      refine ⟨E2.trans E9, .inr ⟨hin, ?_⟩⟩
      have hall : txt ps.flatten = txt (ps.take n).flatten ++ (txt ((ps.take m).drop n).flatten ++ txt (ps.drop m).flatten) := by
        rw [← txt_append, ← txt_append, ← List.append_assoc, ← hsplit, ← List.flatten_append, List.take_append_drop]
      rw [← hpart, hall]
      congr 2
      generalize (txt (ps.flatten.take a.toNat)).length = A at *
      generalize (txt (ps.flatten.take b.toNat)).length = B at *
      generalize txt (ps.take n).flatten = X at *
      generalize txt ((ps.take m).drop n).flatten = Y at *
      generalize txt (ps.drop m).flatten = Z at *
      have hA : A = X.length + (A - X.length) := by omega
      rw [show B - X.length - (A - X.length) = B - A by omega]
      conv => rhs; arg 1; arg 1; arg 2; rw [hA, ← List.drop_drop, List.drop_left]
      rw [List.drop_append_of_le_length (by omega), List.take_append_of_le_length (by rw [List.length_drop]; omega)]
end Go.Proofs.YtplpkeoakclobaaDoor
namespace Go.Proofs.YtplpkeoakclobaaDoor
open Go Go.Lift Go.RowKit Go.Txt

/-- One piece at most, or none is small. -/
def Bg (ps : List (List Int)) : Prop := ps.length ≤ 1 ∨ ∀ p ∈ ps, 8 ≤ p.length
theorem pcs_bg (l : List Int) : Bg (pcs l) := by
  rcases Nat.lt_or_ge l.length 8 with h | h
  · left; rw [pcs_len]; omega
  · exact .inr (pcs_big h)
theorem RpOk.sumE {ps : List (List Int)} (h : RpOk ps) {i : Nat} (hi : i ≤ ps.length) : allS ((ps.map itP).take (i + 1)) = sP (ps.take (i + 1)) := by
  rcases Nat.lt_or_ge i ps.length with h1 | h1
  · exact h.sums h1
  · obtain rfl : i = ps.length := by omega
    rw [List.take_of_length_le (by rw [List.length_map]; omega), List.take_of_length_le (by omega), h.sum]
/-- How many runes are in so many pieces. -/
abbrev tk (ps : List (List Int)) (n : Nat) : Nat := (ps.take n).flatten.length
theorem tk_succ {ps : List (List Int)} {n : Nat} (h : n ≤ ps.length) : tk ps (n + 1) = tk ps n + (pN ps n).length := by
  rcases Nat.lt_or_ge n ps.length with h1 | h1
  · have hg : ps[n]? = some ps[n] := List.getElem?_eq_getElem h1
    unfold tk
    rw [take_succ_of hg, pN_some hg, List.flatten_append, List.length_append]
    simp
  · obtain rfl : n = ps.length := by omega
    unfold tk
    rw [pN_none, List.take_of_length_le (by omega), List.take_of_length_le (Nat.le_refl _)]
    rfl
theorem tk_all (ps : List (List Int)) : tk ps ps.length = ps.flatten.length := by unfold tk; rw [List.take_length]
theorem tk_mono (ps : List (List Int)) {a b : Nat} (h : a ≤ b) : tk ps a ≤ tk ps b := by
  unfold tk
  have : ps.take b = ps.take a ++ (ps.take b).drop a := by
    conv => lhs; rw [← List.take_append_drop a (ps.take b)]
    rw [List.take_take, Nat.min_eq_left h]
  rw [this, List.flatten_append, List.length_append]; omega
theorem tk_le {ps : List (List Int)} {n : Nat} (h : n ≤ ps.length) : tk ps n ≤ ps.flatten.length := by rw [← tk_all]; exact tk_mono ps h
theorem flat_tk (ps : List (List Int)) (n : Nat) : ps.flatten.take (tk ps n) = (ps.take n).flatten ∧ ps.flatten.drop (tk ps n) = (ps.drop n).flatten := by
  have e : ps.flatten = (ps.take n).flatten ++ (ps.drop n).flatten := by rw [← List.flatten_append, List.take_append_drop]
  unfold tk
  constructor
  · conv => lhs; rw [e]
    rw [List.take_left]
  · conv => lhs; rw [e]
    rw [List.drop_left]
/-- The new text of the pieces that are taken out. -/
theorem new_text {ps : List (List Int)} {f l a b : Nat} (more : List Int) (h1 : tk ps f ≤ a) (h3 : b ≤ tk ps l) :
    (ps.take f).flatten ++ (((ps.flatten.drop (tk ps f)).take (a - tk ps f) ++ more ++ (ps.flatten.drop b).take (tk ps l - b)) ++ (ps.drop l).flatten) = ps.flatten.take a ++ more ++ ps.flatten.drop b := by
  have e1 : (ps.take f).flatten ++ (ps.flatten.drop (tk ps f)).take (a - tk ps f) = ps.flatten.take a := by
    rw [← (flat_tk ps f).1]
    conv => rhs; rw [← List.take_append_drop (tk ps f) (ps.flatten.take a)]
    rw [List.take_take, Nat.min_eq_left h1, List.drop_take]
  have e2 : (ps.flatten.drop b).take (tk ps l - b) ++ (ps.drop l).flatten = ps.flatten.drop b := by
    rw [← (flat_tk ps l).2]
    conv => rhs; rw [← List.take_append_drop (tk ps l - b) (ps.flatten.drop b)]
    rw [List.drop_drop]
    congr 2
    omega
  calc (ps.take f).flatten ++ (((ps.flatten.drop (tk ps f)).take (a - tk ps f) ++ more ++ (ps.flatten.drop b).take (tk ps l - b)) ++ (ps.drop l).flatten)
      = ((ps.take f).flatten ++ (ps.flatten.drop (tk ps f)).take (a - tk ps f)) ++ more ++ ((ps.flatten.drop b).take (tk ps l - b) ++ (ps.drop l).flatten) := by simp only [List.append_assoc]
    _ = ps.flatten.take a ++ more ++ ps.flatten.drop b := by rw [e1, e2]
/-- What comes of a text in the place of some. -/
def RepOk (ps : List (List Int)) (a b : Nat) (more : List Int) (ps' : List (List Int)) : Prop := RpOk ps' ∧ ps'.flatten = ps.flatten.take a ++ more ++ ps.flatten.drop b ∧ (Bg ps → Bg ps')
theorem rep_ok {ps : List (List Int)} {f l a b : Nat} {more : List Int} (hp : RpOk ps) (hm : ∀ r ∈ more, okR r) (hf : f ≤ l) (hl : l ≤ ps.length) (h1 : tk ps f ≤ a) (h2 : a ≤ b) (h3 : b ≤ tk ps l) (hlt : f < l ∨ ps = [])
    (hsz : 8 ≤ tk ps l - tk ps f - (b - a) + more.length ∨ (f = 0 ∧ l = ps.length)) (hle : ps.flatten.length - (b - a) + more.length ≤ 20000) :
    RepOk ps a b more (ps.take f ++ pcs ((ps.flatten.drop (tk ps f)).take (a - tk ps f) ++ more ++ (ps.flatten.drop b).take (tk ps l - b)) ++ ps.drop l) := by
  have hfl := tk_le hl
  have hflat : (ps.take f ++ pcs ((ps.flatten.drop (tk ps f)).take (a - tk ps f) ++ more ++ (ps.flatten.drop b).take (tk ps l - b)) ++ ps.drop l).flatten = ps.flatten.take a ++ more ++ ps.flatten.drop b := by
    rw [List.flatten_append, List.flatten_append, pcs_join, List.append_assoc]
    exact new_text more h1 h3
  refine ⟨⟨fun p hp' => ?_, ?_⟩, hflat, fun hb => ?_⟩
  · rcases List.mem_append.1 hp' with h | h
    · rcases List.mem_append.1 h with h | h
      · exact hp.ok p (List.mem_of_mem_take h)
      · refine pcs_ok (fun r hr => ?_) p h
        rcases List.mem_append.1 hr with h | h
        · rcases List.mem_append.1 h with h | h
          · exact hp.runes r (List.mem_of_mem_drop (List.mem_of_mem_take h))
          · exact hm r h
        · exact hp.runes r (List.mem_of_mem_drop (List.mem_of_mem_take h))
    · exact hp.ok p (List.mem_of_mem_drop h)
  · rw [hflat, List.length_append, List.length_append, List.length_take, List.length_drop]; omega
  · by_cases hw : f = 0 ∧ l = ps.length
    · obtain ⟨rfl, rfl⟩ := hw
      rw [List.take_zero, List.nil_append, List.drop_length, List.append_nil]
      exact pcs_bg _
    · have h8 := hsz.resolve_right hw
      have hall : ∀ p ∈ ps, 8 ≤ p.length := by
        rcases hb with h | h
        · exfalso
          rcases hlt with h' | rfl
          · omega
          · simp at hl
            exact hw ⟨by omega, by rw [hl]; rfl⟩
        · exact h
      right
      intro p hp'
      rcases List.mem_append.1 hp' with h | h
      · rcases List.mem_append.1 h with h | h
        · exact hall p (List.mem_of_mem_take h)
        · refine pcs_big ?_ p h
          rw [List.length_append, List.length_append, List.length_take, List.length_take, List.length_drop, List.length_drop]
          omega
      · exact hall p (List.mem_of_mem_drop h)
end Go.Proofs.YtplpkeoakclobaaDoor
namespace Go.Proofs.YtplpkeoakclobaaDoor
open Go Go.Lift Go.RowKit Go.Txt

/-- Which pieces are taken out. -/
structure Win (ps : List (List Int)) (a b f l : Nat) : Prop where
  fl : f ≤ l
  le : l ≤ ps.length
  lo : tk ps f ≤ a
  hi : b ≤ tk ps l
  lt : f < l ∨ ps = []
end Go.Proofs.YtplpkeoakclobaaDoor
