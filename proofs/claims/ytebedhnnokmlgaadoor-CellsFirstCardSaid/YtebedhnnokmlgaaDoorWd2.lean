/- The contract of 'width.Plain'. Condition: the package's two tables hold what its text says. -/
import Derived.Test.YtebedhnnokmlgaaDoorWd1
namespace Go.Proofs.YtebedhnnokmlgaaDoor
open Go Go.Lift Go.RowKit
def zeroL : List Rg := [(768, 879), (8203, 8207), (65024, 65039)]
def wideL : List Rg := [(4352, 4447), (11904, 12350), (12353, 19903), (19968, 40959), (44032, 55203), (63744, 64255), (65280, 65376), (127744, 128591)]
theorem ris_of (l : List Rg) (h : (∀ i, i < l.length → (l.getD i (0, 0)).1 ≤ (l.getD i (0, 0)).2) ∧ ∀ i, i < l.length → ∀ j, j < l.length → i < j → (l.getD i (0, 0)).2 < (l.getD j (0, 0)).1) : Ris l := by
  refine ⟨fun i x hx => ?_, fun i j x y hx hy hij => ?_⟩
  · have hi := (List.getElem?_eq_some_iff.1 hx).1
    have := h.1 i hi
    rw [List.getD_eq_getElem?_getD, hx] at this
    exact this
  · have hi := (List.getElem?_eq_some_iff.1 hx).1
    have hj := (List.getElem?_eq_some_iff.1 hy).1
    have := h.2 i hi j hj hij
    rw [List.getD_eq_getElem?_getD, List.getD_eq_getElem?_getD, hx, hy] at this
    exact this
theorem fine_plain : Fine zeroL wideL :=
  ⟨ris_of _ (by decide), ris_of _ (by decide), by decide, by decide⟩
/-- The two tables of the package. -/
def Glob (w : World) : Prop := Cells w 0 0 (zeroL.flatMap encR) ∧ Cells w 1 0 (wideL.flatMap encR)
theorem Glob.ext {w w' : World} (h : Glob w) (e : Ext w w') : Glob w' := ⟨h.1.ext e, h.2.ext e⟩

/-- One range more: the three operations 'variable, literal, append' of both loops. -/
theorem push_spec {w w0 : World} {P : Program} {K : K1} {base : Nat} {v : Value} {xs : List Rg} {x : Rg} (hP : P = Tryd.prog) (hown : Own w base S.T.width_Range 2 v encR xs) (hb : base ≤ w.heap.size) (he : Ext w0 w) (hb0 : w0.heap.size ≤ base) (hn : xs.length ≤ 1000)
    (h : ∀ v' w', Own w' base S.T.width_Range 2 v' encR (xs ++ [x]) → Ext w0 w' → w.grownBy w' v.ownBlock → K v' w') :
    sBuildSlice P S.T.L_width_Range 1 [(0, .agg (encR x).toArray)] w fun t w => sBuiltin P .append [S.T.L_width_Range, S.T.L_width_Range] S.T.L_width_Range [v, t] w K := by
  subst hP
  refine sBuildSlice_new (lp := [(0, encR x)]) (cs := encR x) S.tel_L_width_Range S.tsz_width_Range (by decide) S.tze_width_Range (by decide) rfl rfl fun b w1 hb1 hs1 he1 hk1 => ?_
  have hsl : Sl w1 (.slice (some ⟨b, 0, none⟩) 1 1) 2 encR [x] := Blk.sl (xs := [x]) (by simpa using hk1) encR_ok (by simp [maxLen])
  refine sAppend_own S.tel_L_width_Range S.tsz_width_Range (by decide) S.tze_width_Range rfl encR_ok (hown.ext he1) (by have := he1.size; omega) hsl (by have : maxLen = 9223372036854775807 := rfl; simp; omega) (by rw [S.tby_width_Range]; simp; omega) fun v' w2 ho2 hg2 => ?_
  refine h v' w2 ho2 ((he.trans he1).wr hg2 fun g hg => ?_) ?_
  · have := hown.lt g hg; omega
  · exact ⟨hg2.os.trans he1.os, hg2.tape.trans he1.tape, hg2.output.trans he1.output, Nat.le_trans he1.size hg2.size, fun k hk hne => (hg2.block k (by have := he1.size; omega) hne).trans (he1.block k hk)⟩

theorem plain_spec {w : World} (hG : Glob w) : sCall Tryd.prog S.width_Plain.n [] w fun p w' => Ext w w' ∧ TabR w' p zeroL wideL := by
  refine S.width_Plain.call ?_
  unfold S.width_Plain
  refine sAlloc_new S.tze_width_Table fun bt w1 hb1 hs1 he1 hk1 => ?_
  rw [sLoad_agg S.tagg_A3_width_Range (hG.1.ext he1) rfl]
  refine LoopS.intro (fun us w2 => ∃ i : Nat, us = [.int .i64 i] ∧ i ≤ 3 ∧ Ext w w2 ∧ ∃ zv, Blk w2 bt [zv, .slice none 0 0] ∧ Own w2 w1.heap.size S.T.width_Range 2 zv encR (zeroL.take i) ∧ w1.heap.size ≤ w2.heap.size)
    (fun us _ => match us with | [.int _ a] => (3 - a).toNat | _ => 0) ⟨0, rfl, by omega, he1, .slice none 0 0, hk1, Own.nil _ _ _ _ _, Nat.le_refl _⟩ ?_
  rintro us vs w2 ⟨i, rfl, hi, he2, zv, hk2, ho2, hs2⟩
  unfold S.width_Plain_L1
  rw [hd, sBin_lss, sIf_dec]
  refine ⟨fun hlt => ?_, fun hge => ?_⟩
  · obtain ⟨x, hx⟩ : ∃ x, zeroL[i]? = some x := ⟨_, List.getElem?_eq_getElem (by simp [zeroL]; omega)⟩
    rw [sIdx_agg S.tar_A3_width_Range S.tagg_width_Range (i := i) (by omega) rfl, encR_ok.extract hx]
    refine sVar S.tze_width_Range S.tsz_width_Range (by decide) rfl rfl (encR_ok.one x) fun b3 w3 hb3 hs3 he3 hk3 => ?_
    have hk3t := hk2.ext he3
    rw [sFldA_ptr S.tfl_width_Table_zero, sLoad_cell S.tcell_L_width_Range (hk3t.cells.at 0 rfl), sLoad_agg S.tagg_width_Range hk3.cells rfl]
    refine push_spec (w0 := w) (base := w1.heap.size) (x := x) rfl (ho2.ext he3) (by have := he3.size; omega) (he2.trans he3) (by omega) (by rw [List.length_take]; omega) fun v' w4 ho4 he4 hg4 => ?_
    have hk4 : Blk w4 bt [zv, .slice none 0 0] := hk3t.wr hg4 (fun e => by have := (ho2.ext he3).lt bt e.symm; omega)
    rw [sFldA_ptr S.tfl_width_Table_zero]
    refine sStore_blk S.tsz_L_width_Range (by decide) hk4 ho4.shape.1 rfl (by simp) (by simpa using ho4.shape.2) fun w5 hs5 hg5 hk5 => ?_
    rw [sBin_add _ _ ⟨by omega, by omega⟩]
    refine ⟨⟨i + 1, by simp, by omega, he4.wr hg5 (by rintro _ ⟨rfl⟩; omega), v', hk5, ?_, ?_⟩, by simp only []; omega⟩
    · rw [take_succ_of hx]
      refine ho4.wr hg5 ?_
      cases hv : v'.ownBlock with
      | none => exact .inl rfl
      | some g => exact .inr (by intro e; cases e; have := ho4.lt bt hv; omega)
    · have := hg4.size; have := he3.size; omega
  · have hi3 : i = 3 := by omega
    subst hi3
    have hz2 : Own w2 w1.heap.size S.T.width_Range 2 zv encR zeroL := ho2
    rw [sLoad_agg S.tagg_A8_width_Range (hG.2.ext he2) rfl]
    refine LoopS.intro (fun us w3 => ∃ i : Nat, us = [.int .i64 i] ∧ i ≤ 8 ∧ Ext w w3 ∧ ∃ wv, Blk w3 bt [zv, wv] ∧ Own w3 w1.heap.size S.T.width_Range 2 zv encR zeroL ∧ Own w3 w2.heap.size S.T.width_Range 2 wv encR (wideL.take i) ∧ w2.heap.size ≤ w3.heap.size)
      (fun us _ => match us with | [.int _ a] => (8 - a).toNat | _ => 0) ⟨0, rfl, by omega, he2, .slice none 0 0, hk2, hz2, Own.nil _ _ _ _ _, Nat.le_refl _⟩ ?_
    rintro us vs w3 ⟨i, rfl, hi, he3, wv, hk3, hz3, ho3, hs3⟩
    have hbt := hk2.lt
    unfold S.width_Plain_L2
    rw [hd, sBin_lss, sIf_dec]
    refine ⟨fun hlt => ?_, fun hge => ?_⟩
    · obtain ⟨x, hx⟩ : ∃ x, wideL[i]? = some x := ⟨_, List.getElem?_eq_getElem (by simp [wideL]; omega)⟩
      rw [sIdx_agg S.tar_A8_width_Range S.tagg_width_Range (i := i) (by omega) rfl, encR_ok.extract hx]
      refine sVar S.tze_width_Range S.tsz_width_Range (by decide) rfl rfl (encR_ok.one x) fun b4 w4 hb4 hs4 he4 hk4 => ?_
      have hk4t := hk3.ext he4
      rw [sFldA_ptr S.tfl_width_Table_wide, sLoad_cell S.tcell_L_width_Range (hk4t.cells.at 1 rfl), sLoad_agg S.tagg_width_Range hk4.cells rfl]
      refine push_spec (w0 := w) (base := w2.heap.size) (x := x) rfl (ho3.ext he4) (by have := he4.size; omega) (he3.trans he4) (by have := he2.size; omega) (by rw [List.length_take]; omega) fun v' w5 ho5 he5 hg5 => ?_
      have hk5 : Blk w5 bt [zv, wv] := hk4t.wr hg5 (fun e => by have := (ho3.ext he4).lt bt e.symm; omega)
      have hz5 : Own w5 w1.heap.size S.T.width_Range 2 zv encR zeroL := by
        refine (hz3.ext he4).wr hg5 ?_
        cases hv : zv.ownBlock with
        | none => exact .inl rfl
        | some g => exact .inr (by intro e; have := hz2.lt g hv; have := (ho3.ext he4).lt g e.symm; omega)
      rw [sFldA_ptr S.tfl_width_Table_wide]
      refine sStore_blk S.tsz_L_width_Range (by decide) hk5 ho5.shape.1 rfl (by simp) (by simpa using ho5.shape.2) fun w6 hs6 hg6 hk6 => ?_
      rw [sBin_add _ _ ⟨by omega, by omega⟩]
      refine ⟨⟨i + 1, by simp, by omega, he5.wr hg6 (by rintro _ ⟨rfl⟩; omega), v', hk6, ?_, ?_, ?_⟩, by simp only []; omega⟩
      · refine hz5.wr hg6 ?_
        cases hv : zv.ownBlock with
        | none => exact .inl rfl
        | some g => exact .inr (by intro e; cases e; have := hz5.lt bt hv; omega)
      · rw [take_succ_of hx]
        refine ho5.wr hg6 ?_
        cases hv : v'.ownBlock with
        | none => exact .inl rfl
        | some g => exact .inr (by intro e; cases e; have := ho5.lt bt hv; omega)
      · have := hg5.size; have := he4.size; omega
    · have hi8 : i = 8 := by omega
      subst hi8
      exact ⟨he3, bt, 0, zv, wv, rfl, hk3.cells, hz3.sl encR_ok, Own.sl (xs := wideL) ho3 encR_ok⟩
theorem refplain_spec (w : World) : sCall Tryd.prog S.bodkinref02_Plain.n [] w fun p w' => Ext w w' ∧ TabR w' p zeroL wideL := by
  refine S.bodkinref02_Plain.call ?_
  unfold S.bodkinref02_Plain
  have bld : ∀ (x : Rg) (w : World) (K : K1), sBuild Tryd.prog S.T.bodkinref02_Range [(0, .int .i32 x.1), (1, .int .i32 x.2)] w K = K (.agg (encR x).toArray) w := fun x w K =>
    sBuild_of (lp := [(0, [.int .i32 x.1]), (1, [.int .i32 x.2])]) S.tze_bodkinref02_Range S.tpl_bodkinref02_Range rfl rfl
  rw [bld (768, 879), bld (8203, 8207), bld (65024, 65039)]
  refine sBuildSlice_new (lp := [(0, encR (768, 879)), (1, encR (8203, 8207)), (2, encR (65024, 65039))]) (cs := zeroL.flatMap encR) S.tel_L_bodkinref02_Range S.tsz_bodkinref02_Range (by decide) S.tze_bodkinref02_Range (by decide) rfl rfl fun b1 w1 hb1 hs1 he1 hk1 => ?_
  rw [bld (4352, 4447), bld (11904, 12350), bld (12353, 19903), bld (19968, 40959), bld (44032, 55203), bld (63744, 64255), bld (65280, 65376), bld (127744, 128591)]
  refine sBuildSlice_new (lp := [(0, encR (4352, 4447)), (1, encR (11904, 12350)), (2, encR (12353, 19903)), (3, encR (19968, 40959)), (4, encR (44032, 55203)), (5, encR (63744, 64255)), (6, encR (65280, 65376)), (7, encR (127744, 128591))]) (cs := wideL.flatMap encR)
    S.tel_L_bodkinref02_Range S.tsz_bodkinref02_Range (by decide) S.tze_bodkinref02_Range (by decide) rfl rfl fun b2 w2 hb2 hs2 he2 hk2 => ?_
  rw [sBuild_of (lp := [(0, [.slice (some ⟨b1, 0, none⟩) 3 3]), (1, [.slice (some ⟨b2, 0, none⟩) 8 8])]) (cs := [.slice (some ⟨b1, 0, none⟩) 3 3, .slice (some ⟨b2, 0, none⟩) 8 8]) S.tze_bodkinref02_Table S.tpl_bodkinref02_Table rfl rfl]
  refine sBox_new rfl fun b3 w3 hb3 hs3 he3 hk3 => ⟨(he1.trans he2).trans he3, b3, 0, _, _, rfl, hk3.cells, ?_, ?_⟩
  · exact Blk.sl (xs := zeroL) (hk1.ext (he2.trans he3)) encR_ok (by decide)
  · exact Blk.sl (xs := wideL) (hk2.ext he3) encR_ok (by decide)

end Go.Proofs.YtebedhnnokmlgaaDoor
