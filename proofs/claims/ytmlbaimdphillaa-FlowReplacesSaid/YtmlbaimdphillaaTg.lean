/- Trees: a place, by a size: the search itself. Conditions: right items, not too many. -/
import Derived.Test.YtmlbaimdphillaaTf
namespace Go.Proofs.Ytmlbaimdphillaa
open Go Go.Lift Go.RowKit
section
variable {dim v bias : Int} {xs : List It} {bv bb bp H : Nat} {w0 : World}

/-- Where the way down ends: behind all, or at a leaf. -/
def FEnd (xs : List It) (dim v bias : Int) (bv bb bp H : Nat) (w0 : World) (us : List Value) (w : World) : Prop :=
  ∃ m vis, Fst xs dim v bias bv bb bp w0 w m vis ∧ vis ≤ H ∧ ((us = [.nilIface] ∧ m = xs.length) ∨ ∃ k c ys rest, us = [ndv k] ∧ Nd w0 0 k c ys ∧ xs.drop m = ys ++ rest ∧ (rest = [] ∨ Rch v bias (szA xs dim (m + ys.length))))
/-- On the way down. -/
def FDown (xs : List It) (dim v bias : Int) (bv bb bp H : Nat) (w0 : World) (n : Nat) (us : List Value) (w : World) : Prop :=
  ∃ m vis, Fst xs dim v bias bv bb bp w0 w m vis ∧ ((us = [.nilIface] ∧ n = 0 ∧ m = xs.length ∧ vis ≤ H) ∨
    ∃ h k c ys rest, us = [ndv k] ∧ n = h + 1 ∧ Nd w0 h k c ys ∧ xs.drop m = ys ++ rest ∧ (rest = [] ∨ Rch v bias (szA xs dim (m + ys.length))) ∧ vis + (h + 1) ≤ H)

theorem down_spec (hx : ∀ x ∈ xs, ItOk x) (hn : xs.length ≤ 1000000) (hd0 : 0 ≤ dim) (hd3 : dim ≤ 3) (hH : H ≤ 1000) {r : Value} {w : World} {n0 : Nat} (h0 : FDown xs dim v bias bv bb bp H w0 n0 [r] w) {M2 : List Value → World → Prop} (hM : ∀ us w, FEnd xs dim v bias bv bb bp H w0 us w → M2 us w) :
    LoopS [r] 1 40 w fun us _ w Nx3 => S.tree_Tree_Find_L3 M2 Nx3 (.int .i64 dim) (.pointer (some ⟨bp, 0, none⟩)) (.func (.func S.tree_Tree_Find_1.n) #[] #[.pointer (some ⟨bv, 0, none⟩), .pointer (some ⟨bb, 0, none⟩)]) (Go.Lift.hd us) w := by
  refine LoopS.ix (FDown xs dim v bias bv bb bp H w0) ⟨_, h0⟩ ?_
  rintro n us vs w ⟨m, vis, hf, hor⟩
  unfold S.tree_Tree_Find_L3
  rcases hor with ⟨rfl, rfl, hm, hvis⟩ | ⟨h, k, c, ys, rest, rfl, rfl, hd, hdr, hrch, hvis⟩
  · rw [Go.Lift.hd, sBin_nilI_ne S.tif_tree_node (.inl rfl)]
    exact hM _ _ ⟨m, vis, hf, hvis, .inl ⟨rfl, hm⟩⟩
  have hE := hf.e
  rw [Go.Lift.hd, sBin_nilI_ne S.tif_tree_node (ndv_or k), ndv_nn, Bool.not_false, sIf_true, sFldA_ptr S.tfl_tree_Place_Visits, sLoad_cell S.tcell_int (hf.kp.cells.at 7 rfl), sBin_add _ _ ⟨by omega, by omega⟩, sFldA_ptr S.tfl_tree_Place_Visits]
  have hkp := hf.kp
  have ne := hf.ne
  refine sStore_blk (vs := [.int .i64 ((vis : Int) + 1)]) S.tsz_int (by decide) hkp rfl rfl (by simp [encPl, encS]) (by simp; rfl) fun w1 hs1 hg1 hk1 => ?_
  have hf1 : Fst xs dim v bias bv bb bp w0 w1 m (vis + 1) := ⟨hE.wr hg1 (by rintro _ ⟨⟩; exact ne.2.2), hf.kv.wr hg1 (by intro e; cases e; exact ne.1 rfl), hf.kb.wr hg1 (by intro e; cases e; exact ne.2.1 rfl), hk1, ne, hf.le, hf.no⟩
  have hyl : m + (ys.length + rest.length) = xs.length := by
    have := congrArg List.length hdr
    rw [List.length_drop, List.length_append] at this
    have := hf.le; omega
  cases h with
  | zero =>
    obtain ⟨bk, s, rfl, k1, k8, rfl, hc, hsl⟩ := nd_leaf hd
    obtain ⟨z, hz⟩ := sAssert_no (P := Try.prog) (T := S.T.tree_node) (v := .pointer (some ⟨bk, 0, none⟩)) (B := S.T.P_tree_leaf) S.tcq_P_tree_inner (by decide)
    rw [ndv_t, hz, sExtract_0, sExtract_1, sUn_not, Bool.not_false, sIf_true]
    exact hM _ _ ⟨m, vis + 1, hf1, by omega, .inr ⟨(true, bk), _, ys, rest, rfl, hd, hdr, hrch⟩⟩
  | succ h =>
    obtain ⟨bk, s, ks, rfl, k2', k8, rfl, hc, hsl, rfl, hkd⟩ := nd_inner hd
    have hE1 := hf1.e
    rw [ndv_f, sAssert_yes S.tcq_P_tree_inner, sExtract_0, sExtract_1, sUn_not, Bool.not_true, sIf_false, sNil_ptr, sFldA_ptr S.tfl_tree_inner_kids, sLoad_cell S.tcell_L_tree_node ((hc.ext hE1).fst rfl), sLen_sl S.tel_L_tree_node (hsl.ext hE1), List.length_map]
    refine LoopS.intro (fun us w2 => ∃ i : Nat, us = [.nilIface, .int .i64 i] ∧ i ≤ ks.length ∧ Fst xs dim v bias bv bb bp w0 w2 (m + ((ks.take i).flatMap (·.2.2)).length) (vis + 1) ∧ (0 < i → ¬ Rch v bias (szA xs dim (m + ((ks.take i).flatMap (·.2.2)).length))))
      (fun us _ => match us with | [_, .int _ a] => (ks.length - a).toNat | _ => 0) ⟨0, rfl, by omega, by simpa using hf1, by omega⟩ ?_
    rintro us vs w2 ⟨i, rfl, hi, hf2, hnr⟩
    unfold S.tree_Tree_Find_L4
    have hE2 := hf2.e
    rw [Go.Lift.hd, Go.Lift.tl, Go.Lift.hd, sBin_lss, sIf_dec]
    refine ⟨fun hlt => ?_, fun hge => ?_⟩
    · obtain ⟨t, ht⟩ : ∃ t, ks[i]? = some t := ⟨_, List.getElem?_eq_getElem (by omega)⟩
      have hmem := List.mem_of_getElem? ht
      obtain ⟨q4, hkt⟩ := hkd t hmem
      have htl := flat_mem_len hmem
      have hfl : (ks.take i).flatMap (·.2.2) ++ (t.2.2 ++ (ks.drop (i + 1)).flatMap (·.2.2)) = ks.flatMap (·.2.2) := by
        conv => rhs; rw [← List.take_append_drop i ks, drop_cons_of ht]
        rw [List.flatMap_append, List.flatMap_cons]
      have hln := congrArg List.length hfl
      rw [List.length_append, List.length_append] at hln
      have htk : ((ks.take (i + 1)).flatMap (·.2.2)).length = ((ks.take i).flatMap (·.2.2)).length + t.2.2.length := by
        rw [take_succ_of ht, List.flatMap_append, List.flatMap_singleton, List.length_append]
      have hdr2 : xs.drop (m + ((ks.take i).flatMap (·.2.2)).length) = t.2.2 ++ ((ks.drop (i + 1)).flatMap (·.2.2) ++ rest) := by
        rw [← List.drop_drop, hdr, ← hfl, List.append_assoc, List.append_assoc, List.drop_left]
      obtain ⟨b1, o1, hel1, hc1⟩ := (hsl.ext hE2).el (kids_at ht)
      rw [sIdxA_sl S.tel_L_tree_node S.tsz_tree_node (by omega) (hsl.ext hE2) (kids_at ht) rfl, hel1, sLoad_cell S.tcell_tree_node (hc1.fst rfl)]
      generalize hmm : m + ((ks.take i).flatMap (·.2.2)).length = mm at hf2 hnr hdr2
      have hsum : addS (allS (xs.take mm)) (allS t.2.2) = allS (xs.take (mm + t.2.2.length)) := by
        rw [take_add_of hdr2 _ (Nat.le_refl _), List.take_length, allS_append]
      have hmn := hf2.le
      have hadd : AddB (allS (xs.take mm)) (allS t.2.2) := AddB.all (by rw [List.length_take]; omega) (by omega)
      refine JoinS.intro (fun us w' => Ext w2 w' ∧ ∃ bs, us = [.pointer (some ⟨bs, 0, none⟩)] ∧ Blk w' bs (encS (allS (xs.take (mm + t.2.2.length)))) ∧ bs ≠ bp) ?_ ?_
      · have hbp := hf2.kp.lt
        refine DrawS.ext ?_
        have E : Ext w2 w2.drew := (Ext.refl w2).drew
        have hvar : ∀ (bs : Nat) w3 w4, Ext w2 w3 → bs = w3.heap.size → Ext w3 w4 → Blk w4 bs (encS zeroS) →
            sStore Try.prog S.T.item_Sum (.pointer (some ⟨bs, 0, none⟩)) (.agg (encS (addS (allS (xs.take mm)) (allS t.2.2))).toArray) w4 fun w' => Ext w2 w' ∧ ∃ bs', [Value.pointer (some ⟨bs, 0, none⟩)] = [.pointer (some ⟨bs', 0, none⟩)] ∧ Blk w' bs' (encS (allS (xs.take (mm + t.2.2.length)))) ∧ bs' ≠ bp := by
          intro bs w3 w4 e3 hbs e4 hk4
          have := e3.size
          refine sStore_blk (vs := encS (addS (allS (xs.take mm)) (allS t.2.2))) S.tsz_item_Sum (by decide) hk4 rfl rfl (by simp [encS]) (encS_one _) fun w' hs' hg' hk' => ?_
          exact ⟨(e3.trans e4).wr hg' (by rintro _ ⟨⟩; omega), bs, rfl, by rw [← hsum]; exact hk', by omega⟩
        rw [stillS_eq (fun w1 h1 K => sFldA_ptr S.tfl_tree_Place_Before) E, stillS_agg (cs := encS (allS (xs.take mm))) S.tagg_item_Sum (hf2.kp.cells.sub 1 6) rfl E]
        refine ⟨?_, ?_⟩
        · refine (sumOf_spec ((hkt.ext hE2).ext E)).mono ?_
          rintro u w3 ⟨e3, rfl⟩
          have F3 := E.trans e3
          refine ⟨F3, ?_, ?_⟩
          · refine (add_spec hadd).mono ?_
            rintro u w4 ⟨e4, rfl⟩
            have F4 := F3.trans e4
            refine ⟨F4, ?_⟩
            refine sAlloc_new S.tze_item_Sum fun bs w5 hbs hs5 e5 hk5 => ⟨F4.trans e5, ?_⟩
            exact hvar bs w4 w5 F4 hbs e5 hk5
          · refine sAlloc_new S.tze_item_Sum fun bs w5 hbs hs5 e5 hk5 => ⟨F3.trans e5, ?_⟩
            refine (add_spec hadd).mono ?_
            rintro u w4 ⟨e4, rfl⟩
            exact hvar bs w3 w4 F3 hbs (e5.trans e4) (hk5.ext e4)
        · refine sAlloc_new S.tze_item_Sum fun bs w5 hbs hs5 e5 hk5 => ⟨E.trans e5, ?_⟩
          refine (sumOf_spec (((hkt.ext hE2).ext E).ext e5)).mono ?_
          rintro u w3 ⟨e3, rfl⟩
          refine ⟨(E.trans e5).trans e3, ?_⟩
          refine (add_spec hadd).mono ?_
          rintro u w4 ⟨e4, rfl⟩
          exact hvar bs _ w4 E hbs ((e5.trans e3).trans e4) ((hk5.ext e3).ext e4)
      rintro us vs w3 ⟨e3, bs, rfl, hbs, hbsp⟩
      unfold S.tree_Tree_Find_J5
      have hf3 := hf2.ext e3
      rw [Go.Lift.hd, sLoad_agg (cs := encS (allS (xs.take (mm + t.2.2.length)))) S.tagg_item_Sum hbs.cells rfl]
      refine (size_spec _ hd0 hd3).mono ?_
      rintro u w4 ⟨e4, rfl⟩
      have hf4 := hf3.ext e4
      refine sDyn_mono (fun u w5 h5 => ?_) (rch_spec hf4.kv hf4.kb _)
      obtain ⟨rfl, q, rfl, hq⟩ := h5
      rw [sIf_bool]
      refine ⟨fun hT => ?_, fun hF => ?_⟩
      · exact ⟨h + 1, by omega, mm, vis + 1, hf4, .inr ⟨h, t.1, t.2.1, t.2.2, _, rfl, rfl, hkt, hdr2, .inr (hq.1 hT), by omega⟩⟩
      · have hnr4 : ¬ Rch v bias (szA xs dim (mm + t.2.2.length)) := fun hR => by rw [hq.2 hR] at hF; cases hF
        rw [sLoad_agg (cs := encS (allS (xs.take (mm + t.2.2.length)))) S.tagg_item_Sum ((hbs.ext e4).cells) rfl, sFldA_ptr S.tfl_tree_Place_Before]
        refine hf4.move hx hn t.2.2.length rfl (by omega) hnr4 fun w6 hf6 _ => ?_
        rw [sBin_add _ _ ⟨by omega, by omega⟩]
        refine ⟨⟨i + 1, by simp, by omega, ?_, fun _ => ?_⟩, by simp only []; omega⟩
        · rw [htk, ← Nat.add_assoc, hmm]; exact hf6
        · rw [htk, ← Nat.add_assoc, hmm]; exact hnr4
    · obtain rfl : i = ks.length := by omega
      rw [List.take_length] at hf2 hnr
      refine ⟨0, by omega, _, vis + 1, hf2, .inl ⟨rfl, rfl, ?_, by omega⟩⟩
      rcases hrch with rfl | h'
      · rw [List.length_nil] at hyl; omega
      · exact absurd h' (hnr (by omega))
end
end Go.Proofs.Ytmlbaimdphillaa
