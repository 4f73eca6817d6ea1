/- Trees: a place, by a size: all of it. Conditions: right items, not too many. -/
import Derived.Test.YtmlbaimdphillaaTg
namespace Go.Proofs.Ytmlbaimdphillaa
open Go Go.Lift Go.RowKit
section
variable {dim v bias : Int} {xs : List It} {bv bb bp H : Nat} {w0 : World}
/-- The leaf is gone through. -/
theorem leaf_spec (hx : ∀ x ∈ xs, ItOk x) (hn : xs.length ≤ 1000000) (hd0 : 0 ≤ dim) (hd3 : dim ≤ 3) {w : World} {m vis : Nat} {a : Value} {ys rest : List It} (hf : Fst xs dim v bias bv bb bp w0 w m vis) (hsl : Sl w0 a 7 encT ys) (hy1 : 1 ≤ ys.length) (hdr : xs.drop m = ys ++ rest) (hrch : rest = [] ∨ Rch v bias (szA xs dim (m + ys.length))) {M6 : List Value → World → Prop}
    (hM : ∀ n w', Fst xs dim v bias bv bb bp w0 w' n vis → Fnd xs dim v bias n → M6 [] w') :
    LoopS [(.int .i64 0)] 1 18 w fun us _ w Nx7 => S.tree_Tree_Find_L7 M6 Nx7 (.int .i64 dim) (.pointer (some ⟨bp, 0, none⟩)) a (.int .i64 ys.length) (.func (.func S.tree_Tree_Find_1.n) #[] #[.pointer (some ⟨bv, 0, none⟩), .pointer (some ⟨bb, 0, none⟩)]) (Go.Lift.hd us) w := by
  have hyl : m + (ys.length + rest.length) = xs.length := by
    have := congrArg List.length hdr
    rw [List.length_drop, List.length_append] at this
    have := hf.le; omega
  refine LoopS.intro (fun us w1 => ∃ i : Nat, us = [.int .i64 i] ∧ i ≤ ys.length ∧ Fst xs dim v bias bv bb bp w0 w1 (m + i) vis ∧ (0 < i → ¬ Rch v bias (szA xs dim (m + i))))
    (fun us _ => match us with | [.int _ a] => (ys.length - a).toNat | _ => 0) ⟨0, rfl, by omega, hf, by omega⟩ ?_
  rintro us vs w1 ⟨i, rfl, hi, hf1, hnr⟩
  unfold S.tree_Tree_Find_L7
  have hE := hf1.e
  rw [Go.Lift.hd, sBin_lss, sIf_dec]
  refine ⟨fun hlt => ?_, fun hge => ?_⟩
  · obtain ⟨x, hxi⟩ : ∃ x, ys[i]? = some x := ⟨_, List.getElem?_eq_getElem (by omega)⟩
    obtain ⟨b1, o1, hel, hc1⟩ := (hsl.ext hE).el hxi
    have hxm : xs[m + i]? = some x := by
      have : (xs.drop m)[i]? = some x := by rw [hdr, List.getElem?_append_left (by omega), hxi]
      rwa [List.getElem?_drop] at this
    rw [sIdxA_sl S.tel_L_item_Item S.tsz_item_Item (by omega) (hsl.ext hE) hxi rfl, hel, sLoad_agg S.tagg_item_Item hc1 rfl]
    refine sVar S.tze_item_Item S.tsz_item_Item (by decide) rfl rfl (encT_ok.one x) fun b2 w2 hb2 hs2 e2 hk2 => ?_
    have hf2 := hf1.ext e2
    have hsum : addS (allS (xs.take (m + i))) (ofI x) = allS (xs.take (m + i + 1)) := by rw [take_succ_of hxm, allS_snoc]
    have hadd : AddB (allS (xs.take (m + i))) (ofI x) := AddB.one (by rw [List.length_take]; omega) x
    refine JoinS.intro (fun us w' => Ext w2 w' ∧ ∃ bs, us = [.pointer (some ⟨bs, 0, none⟩)] ∧ Blk w' bs (encS (allS (xs.take (m + i + 1)))) ∧ bs ≠ bp) ?_ ?_
    · have hbp := hf2.kp.lt
      refine DrawS.ext ?_
      have E : Ext w2 w2.drew := (Ext.refl w2).drew
      have hvar : ∀ (bs : Nat) w3 w4, Ext w2 w3 → bs = w3.heap.size → Ext w3 w4 → Blk w4 bs (encS zeroS) →
          sStore Try.prog S.T.item_Sum (.pointer (some ⟨bs, 0, none⟩)) (.agg (encS (addS (allS (xs.take (m + i))) (ofI x))).toArray) w4 fun w' => Ext w2 w' ∧ ∃ bs', [Value.pointer (some ⟨bs, 0, none⟩)] = [.pointer (some ⟨bs', 0, none⟩)] ∧ Blk w' bs' (encS (allS (xs.take (m + i + 1)))) ∧ bs' ≠ bp := by
        intro bs w3 w4 e3 hbs e4 hk4
        have := e3.size
        refine sStore_blk (vs := encS (addS (allS (xs.take (m + i))) (ofI x))) S.tsz_item_Sum (by decide) hk4 rfl rfl (by simp [encS]) (encS_one _) fun w' hs' hg' hk' => ?_
        exact ⟨(e3.trans e4).wr hg' (by rintro _ ⟨⟩; omega), bs, rfl, by rw [← hsum]; exact hk', by omega⟩
      rw [stillS_eq (fun w1 h1 K => sFldA_ptr S.tfl_tree_Place_Before) E, stillS_agg (cs := encS (allS (xs.take (m + i)))) S.tagg_item_Sum (hf2.kp.cells.sub 1 6) rfl E, stillS_agg (cs := encT x) S.tagg_item_Item hk2.cells rfl E]
      refine ⟨?_, ?_⟩
      · refine (of_spec x).mono ?_
        rintro u w3 ⟨e3, rfl⟩
        have F3 := E.trans e3
        refine ⟨F3, ?_, ?_⟩
        · refine (add_spec hadd).mono ?_
          rintro u w4 ⟨e4, rfl⟩
          have F4 := F3.trans e4
          refine ⟨F4, ?_⟩
          refine sAlloc_new S.tze_item_Sum fun bs w5 hbs hs5 e5 hk5 => ⟨F4.trans e5, ?_⟩
          exact hvar bs w4 w5 F4 hbs e5 hk5
        · refine sAlloc_new S.tze_item_Sum fun bs w5 hbs hs5 e5 hk5 => ⟨F3.trans e5, ?_⟩
          refine (add_spec hadd).mono ?_
          rintro u w4 ⟨e4, rfl⟩
          exact hvar bs w3 w4 F3 hbs (e5.trans e4) (hk5.ext e4)
      · refine sAlloc_new S.tze_item_Sum fun bs w5 hbs hs5 e5 hk5 => ⟨E.trans e5, ?_⟩
        refine (of_spec x).mono ?_
        rintro u w3 ⟨e3, rfl⟩
        refine ⟨(E.trans e5).trans e3, ?_⟩
        refine (add_spec hadd).mono ?_
        rintro u w4 ⟨e4, rfl⟩
        exact hvar bs _ w4 E hbs ((e5.trans e3).trans e4) ((hk5.ext e3).ext e4)
    rintro us vs w3 ⟨e3, bs, rfl, hbs, hbsp⟩
    unfold S.tree_Tree_Find_J8
    have hf3 := hf2.ext e3
    rw [Go.Lift.hd, sLoad_agg (cs := encS (allS (xs.take (m + i + 1)))) S.tagg_item_Sum hbs.cells rfl]
    refine (size_spec _ hd0 hd3).mono ?_
    rintro u w4 ⟨e4, rfl⟩
    have hf4 := hf3.ext e4
    refine sDyn_mono (fun u w5 h5 => ?_) (rch_spec hf4.kv hf4.kb _)
    obtain ⟨rfl, q, rfl, hq⟩ := h5
    rw [sIf_bool]
    refine ⟨fun hT => ?_, fun hF => ?_⟩
    · exact hM (m + i) _ hf4 ⟨hf4.le, hf4.no, fun _ => hq.1 hT⟩
    · have hnr4 : ¬ Rch v bias (szA xs dim (m + i + 1)) := fun hR => by rw [hq.2 hR] at hF; cases hF
      rw [sLoad_agg (cs := encS (allS (xs.take (m + i + 1)))) S.tagg_item_Sum ((hbs.ext e4).cells) rfl, sFldA_ptr S.tfl_tree_Place_Before]
      refine hf4.move hx hn 1 rfl (by omega) hnr4 fun w6 hf6 _ => ?_
      rw [sBin_add _ _ ⟨by omega, by omega⟩]
      exact ⟨⟨i + 1, by simp, by omega, hf6, fun _ => hnr4⟩, by simp only []; omega⟩
  · obtain rfl : i = ys.length := by omega
    have hend : m + ys.length = xs.length := by
      rcases hrch with rfl | h'
      · rw [List.length_nil] at hyl; omega
      · exact absurd h' (hnr (by omega))
    exact hM _ _ hf1 ⟨hf1.le, hf1.no, fun h => by omega⟩
end

theorem topH_at {w : World} {t : Value} {xs : List It} {H : Nat} (ht : TpH w t xs H) : ∃ r, ((r = .nilIface ∧ xs = [] ∧ H = 0) ∨ ∃ h k c, r = ndv k ∧ Nd w h k c xs ∧ H = h + 1) ∧ ∀ w', Ext w w' → sCall Try.prog S.tree_Tree_top.n [t] w' fun u w'' => w'' = w' ∧ u = r := by
  rcases ht with ⟨rfl, rfl, rfl⟩ | ⟨b, r, rfl, hc, hr⟩
  · refine ⟨.nilIface, .inl ⟨rfl, rfl, rfl⟩, fun w' e => S.tree_Tree_top.call ?_⟩
    unfold S.tree_Tree_top
    rw [sBin_ptr_eq S.tpt_P_tree_Tree]
    exact ⟨rfl, rfl⟩
  · refine ⟨r, hr, fun w' e => S.tree_Tree_top.call ?_⟩
    unfold S.tree_Tree_top
    rw [sBin_ptr_eq S.tpt_P_tree_Tree, Option.isNone_some, sIf_false, sNil_ptr, sFldA_ptr S.tfl_tree_Tree_root, sLoad_cell S.tcell_tree_node ((hc.ext e).fst rfl)]
    exact ⟨rfl, rfl⟩
theorem tfind_spec {w : World} {t : Value} {xs : List It} {H : Nat} {dim v bias : Int} (ht : TpH w t xs H) (hx : ∀ x ∈ xs, ItOk x) (hn : xs.length ≤ 1000000) :
    sCall Try.prog S.tree_Tree_Find.n [t, .int .i64 dim, .int .i64 v, .int .i64 bias] w fun u w' => Ext w w' ∧ ((¬ Ask xs dim v bias ∧ u = .tuple #[.agg (encPl 0 zeroS 0).toArray, .int .i64 1]) ∨
      (Ask xs dim v bias ∧ ∃ n vis : Nat, Fnd xs dim v bias n ∧ vis ≤ H ∧ u = .tuple #[.agg (encPl n (allS (xs.take n)) vis).toArray, .int .i64 0])) := by
  refine S.tree_Tree_Find.call ?_
  unfold S.tree_Tree_Find
  have hH : H ≤ 1000 := by
    rcases ht with ⟨_, _, rfl⟩ | ⟨b, r, _, _, ⟨_, _, rfl⟩ | ⟨h, k, c, _, hd, rfl⟩⟩
    · omega
    · omega
    · have := hd.high hn; omega
  refine sBox_new (cs := [.int .i64 v]) rfl fun bv w1 hbv hs1 e1 hkv => ?_
  refine sBox_new (cs := [.int .i64 bias]) rfl fun bb w2 hbb hs2 e2 hkb => ?_
  refine sAlloc_new S.tze_tree_Place fun b8 w3 hb8 hs3 e3 hk8 => ?_
  have E3 := (e1.trans e2).trans e3
  refine (tsum_spec (ht.tp.ext E3)).mono ?_
  rintro u w4 ⟨e4, rfl⟩
  refine sVar (vs := encS (allS xs)) S.tze_item_Sum S.tsz_item_Sum (by decide) rfl rfl (encS_one _) fun b10 w5 hb10 hs5 e5 hk10 => ?_
  have s4 := e4.size
  have E5 := (E3.trans e4).trans e5
  have kv := ((((hkv.ext e2).ext e3).ext e4).ext e5)
  have kb := (((hkb.ext e3).ext e4).ext e5)
  have k8 := ((hk8.ext e4).ext e5)
  refine JoinS.intro (fun us w' => Ext w5 w' ∧ ∃ q : Bool, us = [.bool q] ∧ (q = true ↔ ¬ Ask xs dim v bias)) ?_ ?_
  · refine DrawS.ext ?_
    have E : Ext w5 w5.drew := (Ext.refl w5).drew
    rw [stillS_eq (fun w1 h1 K => sBin_lss _ _) E, sIf_dec]
    refine ⟨fun h => ⟨E, true, rfl, by simp [Ask]; omega⟩, fun h1 => ?_⟩
    rw [stillS_eq (fun w1 h1 K => sBin_gtr _ _) E, sIf_dec]
    refine ⟨fun h => ⟨E, true, rfl, by simp [Ask]; omega⟩, fun h2 => ?_⟩
    rw [stillS_cell S.tcell_int (kv.cells.fst rfl) E, stillS_eq (fun w1 h1 K => sBin_lss _ _) E, sIf_dec]
    refine ⟨fun h => ⟨E, true, rfl, by simp [Ask]; omega⟩, fun h3 => ?_⟩
    rw [stillS_cell S.tcell_int (kv.cells.fst rfl) E, stillS_agg (cs := encS (allS xs)) S.tagg_item_Sum hk10.cells rfl E]
    refine (size_spec _ (by omega) (by omega)).mono ?_
    rintro u w6 ⟨e6, rfl⟩
    have F6 := E.trans e6
    refine ⟨F6, ?_⟩
    rw [stillS_eq (fun w1 h1 K => sBin_gtr _ _) F6, sIf_dec]
    refine ⟨fun h => ⟨F6, true, rfl, by simp [Ask]; omega⟩, fun h4 => ?_⟩
    rw [stillS_cell S.tcell_int (kb.cells.fst rfl) F6, stillS_eq (fun w1 h1 K => sBin_neq _ _) F6, sIf_not]
    refine ⟨fun h5 => ?_, fun h5 => ⟨F6, false, rfl, by simp [Ask]; omega⟩⟩
    rw [stillS_cell S.tcell_int (kb.cells.fst rfl) F6, stillS_eq (fun w1 h1 K => sBin_neq _ _) F6]
    exact ⟨F6, _, rfl, by simp [Ask]; omega⟩
  rintro us vs w6 ⟨e6, q, rfl, hq⟩
  unfold S.tree_Tree_Find_J1
  have E6 := E5.trans e6
  rw [Go.Lift.hd, sIf_bool]
  refine ⟨fun hT => ?_, fun hF => ?_⟩
  · rw [sBuild_of (cs := encPl 0 zeroS 0) (lp := []) S.tze_tree_Place S.tpl_tree_Place rfl rfl]
    refine sStore_blk S.tsz_tree_Place (by decide) (k8.ext e6) (vs := encPl 0 zeroS 0) rfl rfl (by simp) (encPl_one _ _ _) fun w7 hs7 hg7 hk7 => ?_
    rw [sLoad_agg (cs := encPl 0 zeroS 0) S.tagg_tree_Place hk7.cells rfl]
    have s12 := (e1.trans e2).size
    exact ⟨rfl, E6.wr hg7 (by rintro _ ⟨⟩; omega), .inl ⟨hq.1 hT, rfl⟩⟩
  have hask : Ask xs dim v bias := Classical.byContradiction fun h => by rw [hq.2 h] at hF; cases hF
  rw [sFunc_mk, sBuild_of (cs := encPl 0 zeroS 0) (lp := []) S.tze_tree_Place S.tpl_tree_Place rfl rfl]
  refine sVar (vs := encPl 0 zeroS 0) S.tze_tree_Place S.tsz_tree_Place (by decide) rfl rfl (encPl_one _ _ _) fun bp w7 hbp hs7 e7 hkp => ?_
  have s6 := e6.size
  have s1' := e1.size
  obtain ⟨r, hr, htop⟩ := topH_at (ht.ext E6)
  refine (htop w7 e7).mono ?_
  rintro u w8 ⟨rfl, rfl⟩
  have hf0 : Fst xs dim v bias bv bb bp w6 w8 0 0 := ⟨e7, (kv.ext e6).ext e7, (kb.ext e6).ext e7, hkp, ⟨by omega, by omega, by omega⟩, by omega, fun j hj => by omega⟩
  refine JoinS.intro (FEnd xs dim v bias bv bb bp H w6) ?_ ?_
  · have h0 : ∃ n0, FDown xs dim v bias bv bb bp H w6 n0 [u] w8 := by
      rcases hr with ⟨rfl, hx0, rfl⟩ | ⟨h, k, c, rfl, hd, rfl⟩
      · exact ⟨0, 0, 0, hf0, .inl ⟨rfl, rfl, by rw [hx0]; rfl, by omega⟩⟩
      · exact ⟨h + 1, 0, 0, hf0, .inr ⟨h, k, c, xs, [], rfl, rfl, hd, by simp, .inl rfl, by omega⟩⟩
    obtain ⟨n0, h0⟩ := h0
    exact down_spec hx hn hask.1 hask.2.1 hH h0 fun us w h => h
  rintro us vs w9 ⟨m, vis, hf, hvis, hor⟩
  unfold S.tree_Tree_Find_J2
  refine JoinS.intro (fun us w' => ∃ n : Nat, Fst xs dim v bias bv bb bp w6 w' n vis ∧ Fnd xs dim v bias n) ?_ ?_
  · rcases hor with ⟨rfl, hm⟩ | ⟨k, c, ys, rest, rfl, hd, hdr, hrch⟩
    · obtain ⟨z, hz⟩ := sAssert_nil (P := Try.prog) (T := S.T.tree_node) S.tcq_P_tree_leaf
      rw [Go.Lift.hd, hz, sExtract_0, sExtract_1, sIf_false]
      exact ⟨m, hf, hf.le, hf.no, fun h => by omega⟩
    · obtain ⟨bk, s, rfl, k1, k8', rfl, hc, hsl⟩ := nd_leaf hd
      have hE9 := hf.e
      rw [Go.Lift.hd, ndv_t, sAssert_yes S.tcq_P_tree_leaf, sExtract_0, sExtract_1, sIf_true, sNil_ptr, sFldA_ptr S.tfl_tree_leaf_items, sLoad_cell S.tcell_L_item_Item ((hc.ext hE9).fst rfl), sLen_sl S.tel_L_item_Item (hsl.ext hE9)]
      exact leaf_spec hx hn hask.1 hask.2.1 hf hsl k1 hdr hrch fun n w' h1 h2 => ⟨n, h1, h2⟩
  rintro us vs w10 ⟨n, hf, hfn⟩
  unfold S.tree_Tree_Find_J6
  have hE := hf.e
  have ne := hf.ne
  have hN : (allS (xs.take n)).n = n := by rw [allS_n, List.length_take]; have := hf.le; omega
  rw [sFldA_ptr S.tfl_tree_Place_Before, sFldA_ptr S.tfl_item_Sum_N, sLoad_cell S.tcell_int (hf.kp.cells.at 1 rfl), sFldA_ptr S.tfl_tree_Place_Index]
  have hkp := hf.kp
  refine sStore_blk (vs := [.int .i64 (allS (xs.take n)).n]) S.tsz_int (by decide) hkp rfl rfl (by simp [encPl, encS]) (by simp; rfl) fun w11 hs11 hg11 hk11 => ?_
  have hk11 : Blk w11 bp (encPl (allS (xs.take n)).n (allS (xs.take n)) vis) := hk11
  rw [sLoad_agg (cs := encPl (allS (xs.take n)).n (allS (xs.take n)) vis) S.tagg_tree_Place hk11.cells rfl]
  have k8' := ((k8.ext e6).ext hE).wr hg11 (by intro e; cases e; omega)
  have E11 : Ext w w11 := (E6.trans hE).wr hg11 (by rintro _ ⟨⟩; have := E6.size; omega)
  refine sStore_blk S.tsz_tree_Place (by decide) k8' (vs := encPl (allS (xs.take n)).n (allS (xs.take n)) vis) rfl rfl (by simp) (encPl_one _ _ _) fun w12 hs12 hg12 hk12 => ?_
  rw [sLoad_agg (cs := encPl (allS (xs.take n)).n (allS (xs.take n)) vis) S.tagg_tree_Place hk12.cells rfl, hN]
  have s12 := (e1.trans e2).size
  exact ⟨rfl, E11.wr hg12 (by rintro _ ⟨⟩; omega), .inr ⟨hask, n, vis, hfn, hvis, rfl⟩⟩
end Go.Proofs.Ytmlbaimdphillaa
