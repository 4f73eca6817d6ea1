/- The law of steps through what is found. Conditions: the table of sizes in memory. -/
import Derived.Test.YthpngnngoamlpaaDoorM4
namespace Go.Proofs.YthpngnngoamlpaaDoor
open Go Go.Lift Go.RowKit Go.Txt

theorem find_succ {P : Sp → Bool} {xs : List Sp} {i : Nat} {x : Sp} (hx : xs[i]? = some x) : (xs.take (i + 1)).find? P = ((xs.take i).find? P).or (if P x then some x else none) := by
  rw [take_succ_of hx, List.find?_append]
  congr 1
  cases h : P x <;> simp [h]
theorem findSteps_spec {w : World} (hM : Mo w) {v : Value} {xs : List Sp} (hl : Sl w v 2 encV xs) (a : Int) (t : List UInt8) : S.bodkinlaw39_FindSteps (Yf w) v (.int .i64 a) (tv t) w := by
  unfold S.bodkinlaw39_FindSteps
  rw [sLen_sl S.tel_L_api_Span hl, sBin_gtr, sIf_dec]
  refine ⟨fun _ => endF hM (Ext.refl w), fun hn => ?_⟩
  refine (next_spec hl (by omega) a).mono ?_
  rintro u w1 ⟨e1, rfl⟩
  rw [sExtract_0, sExtract_1]
  refine sVar (vs := encV (nextS a xs)) S.tze_api_Span S.tsz_api_Span (by decide) rfl rfl (encV_one _) fun b7 w2 hb7 hs2 e2 hk7 => ?_
  have E2 := e1.trans e2
  refine (last_spec (hl.ext E2) (by omega) a).mono ?_
  rintro u w3 ⟨e3, rfl⟩
  rw [sExtract_0, sExtract_1]
  refine sVar (vs := encV (lastS a xs)) S.tze_api_Span S.tsz_api_Span (by decide) rfl rfl (encV_one _) fun b9 w4 hb9 hs4 e4 hk9 => ?_
  have E4 := (E2.trans e3).trans e4
  refine (replace_spec (hl.ext E4) (by omega) t).mono ?_
  rintro ev w5 ⟨e5, hev⟩
  have E5 := E4.trans e5
  have hl5 := hl.ext E5
  have hes := hev.sl encE_ok
  have c7 := hk7.cells.ext ((e3.trans e4).trans e5)
  have c9 := hk9.cells.ext e5
  rw [sLen_sl S.tel_L_api_Span hl5, sBin_eql, sIf_dec]
  refine ⟨fun h0 => ?_, fun h0 => ?_⟩
  · obtain rfl : xs = [] := List.eq_nil_of_length_eq_zero (by omega)
    have hf : decide (0 < ([] : List Sp).length) = false := rfl
    rw [hf, sUn_not, sIf_bool]
    refine ⟨fun _ => ?_, fun h => (by cases h)⟩
    rw [sUn_not, sIf_bool]
    refine ⟨fun _ => ?_, fun h => (by cases h)⟩
    rw [sLoad_agg (cs := encV (nextS a [])) S.tagg_api_Span c7 rfl, sBuild_of (cs := encV (0, 0)) (lp := []) S.tze_api_Span S.tpl_api_Span rfl rfl, sBin_sEq, sIf_pos (show nextS a [] = (0, 0) from rfl),
      sLoad_agg (cs := encV (lastS a [])) S.tagg_api_Span c9 rfl, sBuild_of (cs := encV (0, 0)) (lp := []) S.tze_api_Span S.tpl_api_Span rfl rfl, sBin_sEq, sIf_pos (show lastS a [] = (0, 0) from rfl),
      sLen_sl S.tel_L_api_Edit hes, sBin_eql, sIf_pos (show ((List.map (edOf t) (List.take 64 [])).length : Int) = 0 from rfl)]
    exact endF hM E5
  have hpos : 0 < xs.length := Nat.pos_of_ne_zero fun k => h0 (by rw [k]; rfl)
  obtain ⟨x0, hx0⟩ : ∃ x, xs[0]? = some x := ⟨_, List.getElem?_eq_getElem hpos⟩
  obtain ⟨xl, hxl⟩ : ∃ x, xs[xs.length - 1]? = some x := ⟨_, List.getElem?_eq_getElem (by omega)⟩
  have hrl : xs.reverse[0]? = some xl := by rw [List.getElem?_reverse (by omega)]; exact hxl
  obtain ⟨bb, of, hel, hc⟩ := hl5.el hx0
  rw [sIdxA_sl (z := 0) S.tel_L_api_Span S.tsz_api_Span (by omega) hl5 hx0 rfl, hel, sLoad_agg (cs := encV x0) S.tagg_api_Span hc rfl]
  refine sVar (vs := encV x0) S.tze_api_Span S.tsz_api_Span (by decide) rfl rfl (encV_one _) fun b12 w6 hb12 hs6 e6 hk12 => ?_
  have E6 := E5.trans e6
  have hl6 := hl.ext E6
  obtain ⟨bb2, of2, hel2, hc2⟩ := hl6.el hxl
  rw [sLen_sl S.tel_L_api_Span hl6, sBin_sub _ _ ⟨by omega, by omega⟩, sIdxA_sl S.tel_L_api_Span S.tsz_api_Span (by omega) hl6 hxl (by omega), hel2, sLoad_agg (cs := encV xl) S.tagg_api_Span hc2 rfl]
  refine sVar (vs := encV xl) S.tze_api_Span S.tsz_api_Span (by decide) rfl rfl (encV_one _) fun b14 w7 hb14 hs7 e7 hk14 => ?_
  have E7 := E6.trans e7
  have hl7 := hl.ext E7
  have c7' := c7.ext (e6.trans e7)
  have c9' := c9.ext (e6.trans e7)
  have hes7 := hes.ext (e6.trans e7)
  have s5 := E5.size
  have sz7 : b7 < w5.heap.size := cell_lt (c7.at 0 rfl)
  have sz9 : b9 < w5.heap.size := cell_lt (c9.at 0 rfl)
  rw [sLen_sl S.tel_L_api_Span hl7]
  clear hel hel2 hc hc2 hes hl6 hl5 hk7 hk9
  have hk12' := hk12.ext e7
  refine LoopS.intro (fun us w' => Ext w5 w' ∧ b14 < w'.heap.size ∧ ∃ i : Nat, us = [.bool ((xs.take i).find? (nextP a)).isSome, .int .i64 i] ∧ i ≤ xs.length ∧ Blk w' b12 (encV (((xs.take i).find? (nextP a)).getD x0)) ∧ Blk w' b14 (encV xl))
    (fun us _ => match us with | [_, .int _ a] => (xs.length - a).toNat | _ => 0) ⟨e6.trans e7, by omega, 0, rfl, Nat.zero_le _, hk12', hk14⟩ ?_
  rintro us vs w8 ⟨e8, b8, i, rfl, hi, k12, k14⟩
  have E8 := E5.trans e8
  have hl8 := hl.ext E8
  unfold S.bodkinlaw39_FindSteps_L1
  rw [Go.Lift.hd, Go.Lift.tl, Go.Lift.hd, sBin_lss, sIf_dec]
  refine ⟨fun hlt => ?_, fun hge => ?_⟩
  · obtain ⟨x, hx⟩ : ∃ x, xs[i]? = some x := ⟨_, List.getElem?_eq_getElem (by omega)⟩
    obtain ⟨bx, ox, hex, hcx⟩ := hl8.el hx
    have hsu := find_succ (P := nextP a) hx
    refine JoinS.intro (fun us w' => w' = w8 ∧ us = [.bool (!((xs.take i).find? (nextP a)).isSome && nextP a x)]) ?_ ?_
    · rw [sUn_not, sIf_bool]
      refine ⟨fun h => ?_, fun h => ⟨rfl, by rw [h]; rfl⟩⟩
      rw [sIdxA_sl S.tel_L_api_Span S.tsz_api_Span (by omega) hl8 hx rfl, hex, sFldA_ptr S.tfl_api_Span_From, sLoad_cell (v := .int .i64 x.1) S.tcell_int (hcx.at 0 rfl), sBin_geq]
      exact ⟨rfl, by rw [h]; rfl⟩
    rintro us vs w9 ⟨rfl, rfl⟩
    unfold S.bodkinlaw39_FindSteps_J2
    rw [Go.Lift.hd, sIf_bool]
    refine ⟨fun h => ?_, fun h => ?_⟩
    · rw [Bool.and_eq_true, Bool.not_eq_true', Option.isSome_eq_false_iff, Option.isNone_iff_eq_none] at h
      rw [h.1, h.2, if_pos rfl, Option.none_or] at hsu
      rw [sIdxA_sl S.tel_L_api_Span S.tsz_api_Span (by omega) hl8 hx rfl, hex, sLoad_agg (cs := encV x) S.tagg_api_Span hcx rfl]
      refine sStore_blk S.tsz_api_Span (by decide) k12 (vs := encV x) rfl rfl (by simp) (encV_one _) fun w10 hs10 hg10 hk10 => ?_
      rw [sBin_add _ _ ⟨by omega, by omega⟩]
      exact ⟨⟨e8.wr hg10 (by rintro _ ⟨⟩; omega), by omega, i + 1, by rw [hsu]; simp, by omega, by rw [hsu]; exact hk10, k14.wr hg10 (by rintro ⟨⟩; omega)⟩, by simp only []; omega⟩
    · have hsu2 : (xs.take (i + 1)).find? (nextP a) = (xs.take i).find? (nextP a) := by
        rw [hsu]
        cases h1 : (xs.take i).find? (nextP a) with
        | some y => rfl
        | none =>
          rw [h1] at h
          cases h2 : nextP a x
          · rfl
          · rw [h2] at h; cases h
      rw [sBin_add _ _ ⟨by omega, by omega⟩]
      exact ⟨⟨e8, b8, i + 1, by rw [hsu2]; simp, by omega, by rw [hsu2]; exact k12, k14⟩, by simp only []; omega⟩
  obtain rfl : i = xs.length := by omega
  rw [List.take_length] at k12
  have hfirst : ((xs.find? (nextP a)).getD x0) = nextS a xs := by unfold nextS; rw [List.head?_eq_getElem?, hx0]; rfl
  rw [hfirst] at k12
  rw [sLen_sl S.tel_L_api_Span hl8]
  refine LoopS.intro (fun us w' => Ext w5 w' ∧ b14 < w'.heap.size ∧ ∃ i : Nat, us = [.bool ((xs.reverse.take i).find? (lastP a)).isSome, .int .i64 i] ∧ i ≤ xs.length ∧ Blk w' b12 (encV (nextS a xs)) ∧ Blk w' b14 (encV (((xs.reverse.take i).find? (lastP a)).getD xl)))
    (fun us _ => match us with | [_, .int _ a] => (xs.length - a).toNat | _ => 0) ⟨e8, b8, 0, rfl, Nat.zero_le _, k12, k14⟩ ?_
  rintro us vs w9 ⟨e9, b9', i, rfl, hi2, k12', k14'⟩
  have E9 := E5.trans e9
  have hl9 := hl.ext E9
  unfold S.bodkinlaw39_FindSteps_L3
  rw [Go.Lift.hd, Go.Lift.tl, Go.Lift.hd, sBin_lss, sIf_dec]
  refine ⟨fun hlt => ?_, fun hge => ?_⟩
  · obtain ⟨x, hx⟩ : ∃ x, xs[xs.length - 1 - i]? = some x := ⟨_, List.getElem?_eq_getElem (by omega)⟩
    have hrx : xs.reverse[i]? = some x := by rw [List.getElem?_reverse (by omega)]; exact hx
    obtain ⟨bx, ox, hex, hcx⟩ := hl9.el hx
    have hsu := find_succ (P := lastP a) hrx
    rw [sLen_sl S.tel_L_api_Span hl9, sBin_sub _ _ ⟨by omega, by omega⟩, sBin_sub _ _ ⟨by omega, by omega⟩]
    refine JoinS.intro (fun us w' => w' = w9 ∧ us = [.bool (!((xs.reverse.take i).find? (lastP a)).isSome && lastP a x)]) ?_ ?_
    · rw [sUn_not, sIf_bool]
      refine ⟨fun h => ?_, fun h => ⟨rfl, by rw [h]; rfl⟩⟩
      rw [sIdxA_sl S.tel_L_api_Span S.tsz_api_Span (by omega) hl9 hx (by omega), hex, sFldA_ptr S.tfl_api_Span_To, sLoad_cell (v := .int .i64 x.2) S.tcell_int (hcx.at 1 rfl), sBin_leq]
      exact ⟨rfl, by rw [h]; rfl⟩
    rintro us vs w10 ⟨rfl, rfl⟩
    unfold S.bodkinlaw39_FindSteps_J4
    rw [Go.Lift.hd, sIf_bool]
    refine ⟨fun h => ?_, fun h => ?_⟩
    · rw [Bool.and_eq_true, Bool.not_eq_true', Option.isSome_eq_false_iff, Option.isNone_iff_eq_none] at h
      rw [h.1, h.2, if_pos rfl, Option.none_or] at hsu
      rw [sIdxA_sl S.tel_L_api_Span S.tsz_api_Span (by omega) hl9 hx (by omega), hex, sLoad_agg (cs := encV x) S.tagg_api_Span hcx rfl]
      refine sStore_blk S.tsz_api_Span (by decide) k14' (vs := encV x) rfl rfl (by simp) (encV_one _) fun w11 hs11 hg11 hk11 => ?_
      rw [sBin_add _ _ ⟨by omega, by omega⟩]
      exact ⟨⟨e9.wr hg11 (by rintro _ ⟨⟩; omega), by omega, i + 1, by rw [hsu]; simp, by omega, k12'.wr hg11 (by rintro ⟨⟩; omega), by rw [hsu]; exact hk11⟩, by simp only []; omega⟩
    · have hsu2 : (xs.reverse.take (i + 1)).find? (lastP a) = (xs.reverse.take i).find? (lastP a) := by
        rw [hsu]
        cases h1 : (xs.reverse.take i).find? (lastP a) with
        | some y => rfl
        | none =>
          rw [h1] at h
          cases h2 : lastP a x
          · rfl
          · rw [h2] at h; cases h
      rw [sBin_add _ _ ⟨by omega, by omega⟩]
      exact ⟨⟨e9, b9', i + 1, by rw [hsu2]; simp, by omega, k12', by rw [hsu2]; exact k14'⟩, by simp only []; omega⟩
  obtain rfl : i = xs.length := by omega
  rw [List.take_of_length_le (by simp)] at k14'
  have hlast : ((xs.reverse.find? (lastP a)).getD xl) = lastS a xs := by unfold lastS; rw [List.head?_eq_getElem?, hrl]; rfl
  rw [hlast] at k14'
  have e59 : Ext w5 w9 := e9
  have hes9 : Sl w9 ev 3 encE ((xs.take 64).map (edOf t)) := (hev.sl encE_ok).ext e59
  have hel9 : ((xs.take 64).map (edOf t)).length = min 64 xs.length := by rw [List.length_map, List.length_take]
  rw [sLen_sl S.tel_L_api_Span hl9]
  refine JoinS.intro (fun us w' => w' = w9 ∧ us = [.int .i64 ((min 64 xs.length : Nat) : Int)]) ?_ ?_
  · rw [sBin_gtr, sIf_dec]
    refine ⟨fun h => ⟨rfl, by rw [Nat.min_eq_left (by omega)]; rfl⟩, fun h => ⟨rfl, by rw [Nat.min_eq_right (by omega)]⟩⟩
  rintro us vs w10 ⟨rfl, rfl⟩
  unfold S.bodkinlaw39_FindSteps_J5
  have hyes : decide (0 < xs.length) = true := decide_eq_true hpos
  rw [Go.Lift.hd, hyes, sUn_not, sIf_bool]
  refine ⟨fun h => (by cases h), fun _ => ?_⟩
  rw [sUn_not, sIf_bool]
  refine ⟨fun h => (by cases h), fun _ => ?_⟩
  rw [sLoad_agg (cs := encV (nextS a xs)) S.tagg_api_Span (c7.ext e59) rfl, sLoad_agg (cs := encV (nextS a xs)) S.tagg_api_Span k12'.cells rfl, sBin_sNe, sIf_not]
  refine ⟨fun h => absurd rfl h, fun _ => ?_⟩
  rw [sLoad_agg (cs := encV (lastS a xs)) S.tagg_api_Span (c9.ext e59) rfl, sLoad_agg (cs := encV (lastS a xs)) S.tagg_api_Span k14'.cells rfl, sBin_sNe, sIf_not]
  refine ⟨fun h => absurd rfl h, fun _ => ?_⟩
  rw [sLen_sl S.tel_L_api_Edit hes9, hel9, sBin_neq, sIf_not]
  refine ⟨fun h => absurd rfl h, fun _ => ?_⟩
  rw [sLen_sl S.tel_L_api_Edit hes9, hel9]
  refine LoopS.intro (fun us w' => Ext w10 w' ∧ ∃ i : Nat, us = [.int .i64 i] ∧ i ≤ min 64 xs.length)
    (fun us _ => match us with | [.int _ a] => (((min 64 xs.length : Nat) : Int) - a).toNat | _ => 0) ⟨Ext.refl _, 0, rfl, Nat.zero_le _⟩ ?_
  rintro us vs w11 ⟨e11, i, rfl, hi3⟩
  unfold S.bodkinlaw39_FindSteps_L6
  have E11 := E9.trans e11
  rw [Go.Lift.hd, sBin_lss, sIf_dec]
  refine ⟨fun hlt => ?_, fun hge2 => endF hM E11⟩
  obtain ⟨x, hx⟩ : ∃ x, xs[i]? = some x := ⟨_, List.getElem?_eq_getElem (by omega)⟩
  have hex' : ((xs.take 64).map (edOf t))[i]? = some (edOf t x) := by rw [List.getElem?_map, List.getElem?_take, if_pos (by omega), hx]; rfl
  have hes11 := hes9.ext e11
  obtain ⟨be, oe, hele, hce⟩ := hes11.el hex'
  rw [sIdxA_sl S.tel_L_api_Edit S.tsz_api_Edit (by omega) hes11 hex' rfl, hele, sLoad_agg (cs := encE (edOf t x)) S.tagg_api_Edit hce rfl]
  refine sVar (vs := encE (edOf t x)) S.tze_api_Edit S.tsz_api_Edit (by decide) rfl rfl (encE_one _) fun b20 w12 hb20 hs12 e12 hk20 => ?_
  refine DrawS.ext ?_
  have E : Ext w12 w12.drew := (Ext.refl w12).drew
  have hl12 := hl.ext (E11.trans e12)
  obtain ⟨bx, ox, hexx, hcx⟩ := hl12.el hx
  rw [stillS_agg (cs := encE (edOf t x)) S.tagg_api_Edit hk20.cells rfl E,
    stillS_eq (fun w1 h1 K => sIdxA_sl S.tel_L_api_Span S.tsz_api_Span (by omega) (hl12.ext h1) hx rfl) E, hexx, stillS_eq (fun w' h1 K => sFldA_ptr S.tfl_api_Span_From) E, stillS_cell (v := .int .i64 x.1) S.tcell_int (hcx.at 0 rfl) E,
    stillS_eq (fun w1 h1 K => sIdxA_sl S.tel_L_api_Span S.tsz_api_Span (by omega) (hl12.ext h1) hx rfl) E, hexx, stillS_eq (fun w' h1 K => sFldA_ptr S.tfl_api_Span_To) E, stillS_cell (v := .int .i64 x.2) S.tcell_int (hcx.at 1 rfl) E,
    stillS_eq (fun w' h1 K => sBuild_of (cs := encE (edOf t x)) (lp := [(0, [.int .i64 x.1]), (1, [.int .i64 x.2]), (2, [tv t])]) S.tze_api_Edit S.tpl_api_Edit rfl rfl) E, stillS_eq (fun w1 h1 K => sBin_edne (edOf t x) (edOf t x)) E, sIf_not]
  refine ⟨fun h => absurd rfl h, fun _ => ?_⟩
  rw [sBin_add _ _ ⟨by omega, by omega⟩]
  exact ⟨⟨(e11.trans e12).trans E, i + 1, by simp, by omega⟩, by simp only []; omega⟩
end Go.Proofs.YthpngnngoamlpaaDoor
