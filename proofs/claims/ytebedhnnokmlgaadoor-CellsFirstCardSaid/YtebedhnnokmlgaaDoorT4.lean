/- Lists of ints compared; the document's own sizes and cells; what 'tab' answers: true. Conditions: tables in memory; at most a million runes. -/
import Derived.Test.YtebedhnnokmlgaaDoorT3
namespace Go.Proofs.YtebedhnnokmlgaaDoor
open Go Go.Lift Go.RowKit

theorem ints_spec {w : World} {a b : Value} {xs ys : List Int} (ha : Sl w a 1 (encI .i64) xs) (hb : Sl w b 1 (encI .i64) ys) : sCall Tryd.prog S.bodkinplain_Ints.n [a, b] w fun u w' => Ext w w' ∧ ∃ r, u = .bool r ∧ (r = true ↔ xs = ys) := by
  refine S.bodkinplain_Ints.call ?_
  unfold S.bodkinplain_Ints
  rw [sLen_sl S.tel_L_int ha]
  have hla := ha.len_le
  refine LoopS.intro (fun us w1 => Ext w w1 ∧ ∃ i : Nat, us = [.int .i64 i] ∧ i ≤ xs.length ∧ i ≤ ys.length ∧ xs.take i = ys.take i)
    (fun us _ => match us with | [.int _ a] => (xs.length - a).toNat | _ => 0) ⟨Ext.refl w, 0, rfl, Nat.zero_le _, Nat.zero_le _, rfl⟩ ?_
  rintro us vs w1 ⟨he, i, rfl, hi, hj, hp⟩
  unfold S.bodkinplain_Ints_L1
  rw [hd, sBin_lss, sIf_dec]
  refine ⟨fun hlt => ?_, fun hge => ?_⟩
  · refine DrawS.ext ?_
    have E : Ext w1 w1.drew := (Ext.refl w1).drew
    have ha1 := ha.ext he
    have hb1 := hb.ext he
    rw [stillS_eq (fun w1 h1 K => sLen_sl S.tel_L_int (hb1.ext h1)) E, stillS_eq (fun w1 h1 K => sBin_geq _ _) E, sIf_dec]
    refine ⟨fun hge => ⟨he.trans E, false, rfl, ?_⟩, fun hlt2 => ?_⟩
    · simp only [Bool.false_eq_true, false_iff]
      rintro rfl
      omega
    obtain ⟨x, hx⟩ : ∃ x, xs[i]? = some x := ⟨_, List.getElem?_eq_getElem (by omega)⟩
    obtain ⟨y, hy⟩ : ∃ y, ys[i]? = some y := ⟨_, List.getElem?_eq_getElem (by omega)⟩
    obtain ⟨b1, o1, hel1, hc1⟩ := ha1.el hx
    obtain ⟨b2, o2, hel2, hc2⟩ := hb1.el hy
    rw [stillS_eq (fun w1 h1 K => sIdxA_sl S.tel_L_int S.tsz_int (by omega) (ha1.ext h1) hx rfl) E, hel1, stillS_cell S.tcell_int (hc1.fst rfl) E,
      stillS_eq (fun w1 h1 K => sIdxA_sl S.tel_L_int S.tsz_int (by omega) (hb1.ext h1) hy rfl) E, hel2, stillS_cell S.tcell_int (hc2.fst rfl) E, stillS_eq (fun w1 h1 K => sBin_neq _ _) E, sIf_not]
    refine ⟨fun h => ⟨he.trans E, false, rfl, ?_⟩, fun h => ?_⟩
    · simp only [Bool.false_eq_true, false_iff]
      rintro rfl
      rw [hx] at hy; cases hy
      exact h rfl
    · subst h
      rw [sBin_add _ _ ⟨by omega, by omega⟩]
      refine ⟨⟨he.trans E, i + 1, by simp, by omega, by omega, ?_⟩, by simp only []; omega⟩
      rw [List.take_add_one, List.take_add_one, hp, hx, hy]
  · rw [sLen_sl S.tel_L_int (ha.ext he), sLen_sl S.tel_L_int (hb.ext he), sBin_eql]
    refine ⟨he, _, rfl, ?_⟩
    rw [decide_eq_true_eq]
    have hix : i = xs.length := by omega
    subst hix
    rw [List.take_length] at hp
    constructor
    · intro h; rw [hp, List.take_of_length_le (by omega)]
    · rintro rfl; rfl

theorem stop_iff {tab a n : Int} (ht : 1 ≤ tab) (hn : 1 ≤ n) (hn2 : n ≤ tab - a % tab) : (a + n) % tab = 0 ↔ a % tab + n = tab := by
  have h1 := Int.emod_nonneg a (show tab ≠ 0 by omega)
  have e : (a + n) % tab = (a % tab + n) % tab := by rw [Int.emod_add_emod]
  rw [e]
  constructor
  · intro h
    rcases Int.lt_or_le (a % tab + n) tab with hlt | hge
    · rw [Int.emod_eq_of_lt (by omega) hlt] at h; omega
    · omega
  · intro h; rw [h]; exact Int.emod_self

theorem refsizes_spec {w : World} {p l : Value} {zs ws : List Rg} {tab : Int} {ls : List Int} (h : TabR w p zs ws) (nz : zs.length ≤ 1000000) (nw : ws.length ≤ 1000000) (ht : Right tab) (hl : Sl w l 1 (encI .i32) ls) (hn : ls.length ≤ 1000000) :
    sCall Tryd.prog S.bodkinref17_Sizes.n [p, l, .int .i64 tab] w fun u w' => Ext w w' ∧ Row w' w.heap.size S.T.int 1 u (encI .i64) (szs (ofT zs ws) tab ls ls.length) := by
  have hk : Okt (ofT zs ws) tab := ⟨ofT_le zs ws, ht⟩
  refine S.bodkinref17_Sizes.call ?_
  unfold S.bodkinref17_Sizes
  rw [sLen_sl S.tel_L_int32 hl]
  refine LoopS.intro (fun us w1 => Ext w w1 ∧ ∃ (i : Nat) (v : Value), us = [v, .int .i64 (pos (ofT zs ws) tab ls i), .int .i64 i] ∧ i ≤ ls.length ∧ Row w1 w.heap.size S.T.int 1 v (encI .i64) (szs (ofT zs ws) tab ls i))
    (fun us _ => match us with | [_, _, .int _ a] => (ls.length - a).toNat | _ => 0) ⟨Ext.refl w, 0, _, rfl, Nat.zero_le _, Row.nil _ _ _ _ _⟩ ?_
  rintro us vs w1 ⟨he, i, v, rfl, hi, hv⟩
  unfold S.bodkinref17_Sizes_L1
  have hb := pos_bd (ls := ls) hk i
  rw [hd, tl, hd, tl, hd, sBin_lss, sIf_dec]
  refine ⟨fun hlt => ?_, fun hge => ⟨he, by obtain rfl : i = ls.length := by omega
                                            exact hv⟩⟩
  obtain ⟨r, hx⟩ : ∃ x, ls[i]? = some x := ⟨_, List.getElem?_eq_getElem (by omega)⟩
  obtain ⟨b, o, hel, hc⟩ := (hl.ext he).el hx
  rw [sIdxA_sl S.tel_L_int32 S.tsz_int32 (by omega) (hl.ext he) hx rfl, hel, sLoad_cell S.tcell_int32 (hc.fst rfl)]
  refine (refof_spec (h.ext he) nz nw r).mono ?_
  rintro u w2 ⟨e2, rfl⟩
  have hs := siz_bd (r := r) (at_ := pos (ofT zs ws) tab ls i) hk
  refine JoinS.intro (fun us w' => w' = w2 ∧ us = [.int .i64 (siz (ofT zs ws) tab r (pos (ofT zs ws) tab ls i))]) ?_ ?_
  · rw [sBin_eql, sIf_dec]
    refine ⟨fun h9 => ?_, fun h9 => ⟨rfl, by simp [siz, h9]⟩⟩
    subst h9
    have hm1 := Int.emod_nonneg (pos (ofT zs ws) tab ls i) (show tab ≠ 0 by omega)
    have hm2 := Int.emod_lt_of_pos (pos (ofT zs ws) tab ls i) (show 0 < tab by omega)
    refine LoopS.intro (fun us w' => w' = w2 ∧ ∃ n : Int, us = [.int .i64 n] ∧ 1 ≤ n ∧ n ≤ tab - pos (ofT zs ws) tab ls i % tab ∧ (64 ≤ pos (ofT zs ws) tab ls i → n = 1))
      (fun us _ => match us with | [.int _ a] => (tab - a).toNat | _ => 0) ⟨rfl, 1, rfl, by omega, by omega, fun _ => rfl⟩ ?_
    rintro us vs w2 ⟨rfl, n, rfl, hn1, hn2, hn3⟩
    unfold S.bodkinref17_Sizes_L3
    rw [hd, sBin_lss, sIf_dec]
    refine ⟨fun h64 => ?_, fun h64 => ⟨rfl, by have := hn3 (by omega); subst this; simp [siz, show (64:Int) ≤ pos (ofT zs ws) tab ls i by omega]⟩⟩
    rw [sBin_add _ _ ⟨by omega, by omega⟩, sBin_rem _ _ (by omega) (by omega) (by omega), sBin_neq, sIf_not, sBin_add _ _ ⟨by omega, by omega⟩]
    have hst := stop_iff (a := pos (ofT zs ws) tab ls i) ht.1 hn1 hn2
    refine ⟨fun hne => ?_, fun heq => ⟨rfl, ?_⟩⟩
    · have : pos (ofT zs ws) tab ls i % tab + n ≠ tab := fun e => hne (hst.2 e)
      exact ⟨⟨rfl, n + 1, rfl, by omega, by omega, fun h => by omega⟩, by simp only []; omega⟩
    · have := hst.1 heq
      congr 2
      simp only [siz, if_true, show ¬ (64:Int) ≤ pos (ofT zs ws) tab ls i by omega, if_false]
      omega
  rintro us vs w2 ⟨rfl, rfl⟩
  unfold S.bodkinref17_Sizes_J2
  rw [hd]
  refine pushI (hv.ext e2) (he.trans e2).size (by rw [szs_len]; omega) fun v' w3 hv3 hg3 => ?_
  rw [sBin_add _ _ ⟨by omega, by omega⟩, sBin_add _ _ ⟨by omega, by omega⟩]
  refine ⟨⟨(he.trans e2).wr hg3 fun g hg => ((hv.ext e2).lt g hg).1, i + 1, v', by rw [pos_succ hx]; simp, by omega, by rw [szs_succ hx]; exact hv3⟩, by simp only []; omega⟩

theorem pushI2 {w : World} {K : K1} {base : Nat} {v : Value} {xs : List Int} {x : Int} (hr : Row w base S.T.int 1 v (encI .i64) xs) (hb : base ≤ w.heap.size) (hn : xs.length ≤ 2000000)
    (h : ∀ v' w', Row w' base S.T.int 1 v' (encI .i64) (xs ++ [x]) → w.grownBy w' v.ownBlock → (v'.ownBlock = v.ownBlock ∨ ∀ g, v'.ownBlock = some g → w.heap.size ≤ g) → K v' w') :
    sBuildSlice Tryd.prog 24 1 [(0, .int .i64 x)] w fun t w => sBuiltin Tryd.prog .append [24, 24] 24 [v, t] w K := by
  refine sBuildSlice_own (enc := encI .i64) (xs := [x]) (lp := [(0, [.int .i64 x])]) S.tel_L_int S.tsz_int rfl S.tze_int (by decide) (by decide) (encI_ok _) rfl rfl fun t w1 ht ho1 he1 hs1 => ?_
  refine sAppend_row S.tel_L_int S.tsz_int (by decide) S.tze_int rfl (encI_ok _) (hr.ext he1) (by omega) (ho1.sl (encI_ok _)) (by have : maxLen = 9223372036854775807 := rfl; simp; omega) (by rw [S.tby_int]; simp; omega) fun v' w2 hr2 hg2 hor => ?_
  exact h v' w2 hr2 (grown_trans (grown_of_ext he1 _) hg2) (hor.imp id fun h g hg => by have := h g hg; omega)

/-- Each place's cell. -/
def poss (f : Int → Int) (tab : Int) (ls : List Int) (n : Nat) : List Int := (List.range n).map (pos f tab ls)
theorem poss_len {f : Int → Int} {tab : Int} {ls : List Int} {n : Nat} : (poss f tab ls n).length = n := by simp [poss]
theorem poss_at {f : Int → Int} {tab : Int} {ls : List Int} {i n : Nat} (hi : i < n) : (poss f tab ls n)[i]? = some (pos f tab ls i) := by simp [poss, hi]
theorem poss_succ {f : Int → Int} {tab : Int} {ls : List Int} {n : Nat} : poss f tab ls (n + 1) = poss f tab ls n ++ [pos f tab ls n] := by simp [poss, List.range_succ]

theorem refcells_spec {w : World} {p l : Value} {zs ws : List Rg} {tab : Int} {ls : List Int} (h : TabR w p zs ws) (nz : zs.length ≤ 1000000) (nw : ws.length ≤ 1000000) (ht : Right tab) (hl : Sl w l 1 (encI .i32) ls) (hn : ls.length ≤ 1000000) :
    sCall Tryd.prog S.bodkinref17_Cells.n [p, l, .int .i64 tab] w fun u w' => Ext w w' ∧ Row w' w.heap.size S.T.int 1 u (encI .i64) (poss (ofT zs ws) tab ls (ls.length + 1)) := by
  have hk : Okt (ofT zs ws) tab := ⟨ofT_le zs ws, ht⟩
  refine S.bodkinref17_Cells.call ?_
  unfold S.bodkinref17_Cells
  refine sBuildSlice_own (enc := encI .i64) (xs := [0]) (lp := [(0, [.int .i64 0])]) S.tel_L_int S.tsz_int rfl S.tze_int (by decide) (by decide) (encI_ok _) rfl rfl fun v0 w1 hv0 ho1 he1 hs1 => ?_
  refine (refsizes_spec (h.ext he1) nz nw ht (hl.ext he1) hn).mono ?_
  rintro z w2 ⟨e2, hz⟩
  have E2 := he1.trans e2
  have hzs := hz.sl (encI_ok _)
  rw [sLen_sl S.tel_L_int hzs, szs_len]
  have hv0l : ∀ g, v0.ownBlock = some g → g < w1.heap.size := fun g hg => (ho1.lt g hg).2
  refine LoopS.intro (fun us w3 => Ext w w3 ∧ Row w3 w1.heap.size S.T.int 1 z (encI .i64) (szs (ofT zs ws) tab ls ls.length) ∧ ∃ (i : Nat) (v : Value), us = [v, .int .i64 i] ∧ i ≤ ls.length ∧ Row w3 w.heap.size S.T.int 1 v (encI .i64) (poss (ofT zs ws) tab ls (i + 1)) ∧ ∀ g, z.ownBlock = some g → v.ownBlock ≠ some g)
    (fun us _ => match us with | [_, .int _ a] => (ls.length - a).toNat | _ => 0) ⟨E2, hz, 0, v0, rfl, Nat.zero_le _, ho1.row.ext e2, fun g hg h0 => by have := (hz.lt g hg).1; have := hv0l g h0; omega⟩ ?_
  rintro us vs w3 ⟨e3, hz3, i, v, rfl, hi, hv, hne⟩
  unfold S.bodkinref17_Cells_L1
  rw [hd, tl, hd, sBin_lss, sIf_dec]
  refine ⟨fun hlt => ?_, fun hge => ⟨e3, by obtain rfl : i = ls.length := by omega
                                            exact hv⟩⟩
  obtain ⟨r, hx⟩ : ∃ x, ls[i]? = some x := ⟨_, List.getElem?_eq_getElem (by omega)⟩
  have hb := pos_bd (ls := ls) hk i
  have hs := siz_bd (r := r) (at_ := pos (ofT zs ws) tab ls i) hk
  have a1 := szs_at (f := ofT zs ws) (tab := tab) hx (n := ls.length) (by omega)
  have a2 := poss_at (f := ofT zs ws) (tab := tab) (ls := ls) (i := i) (n := i + 1) (by omega)
  obtain ⟨b1, o1, hel1, hc1⟩ := (hz3.sl (encI_ok _)).el a1
  obtain ⟨b2, o2, hel2, hc2⟩ := (hv.sl (encI_ok _)).el a2
  rw [sIdxA_sl S.tel_L_int S.tsz_int (by omega) (hz3.sl (encI_ok _)) a1 rfl, hel1, sLoad_cell S.tcell_int (hc1.fst rfl), sIdxA_sl S.tel_L_int S.tsz_int (by omega) (hv.sl (encI_ok _)) a2 rfl, hel2, sLoad_cell S.tcell_int (hc2.fst rfl), sBin_add _ _ ⟨by omega, by omega⟩]
  refine pushI2 hv e3.size (by rw [poss_len]; omega) fun v' w4 hv4 hg4 hor => ?_
  rw [sBin_add _ _ ⟨by omega, by omega⟩]
  refine ⟨⟨e3.wr hg4 fun g hg => (hv.lt g hg).1, hz3.wr hg4 ?_, i + 1, v', by simp, by omega, by rw [poss_succ, pos_succ hx]; exact hv4, fun g hg h0 => ?_⟩, by simp only []; omega⟩
  · cases hzo : z.ownBlock with
    | none => exact .inl rfl
    | some g => exact .inr fun e => hne g hzo e.symm
  · rcases hor with h1 | h1
    · rw [h1] at h0; exact hne g hg h0
    · have := h1 g h0; have := (hz3.lt g hg).2; omega
end Go.Proofs.YtebedhnnokmlgaaDoor
