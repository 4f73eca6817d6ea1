/- What 'WidthPlain', 'WidthNil' and 'WidthSums' answer: true. Condition: the package's two tables hold what its text says. -/
import Derived.Test.YtchblkoipojcbaaDoorW2
namespace Go.Proofs.YtchblkoipojcbaaDoor
open Go Go.Lift Go.RowKit
theorem refplain_spec (w : World) : sCall Tryd.prog S.bodkinref02_Plain.n [] w fun p w' => Ext w w' ∧ TabR w' p zeroL wideL := by
  refine S.bodkinref02_Plain.call ?_
  unfold S.bodkinref02_Plain
  have bld : ∀ (x : Rg) (w : World) (K : K1), sBuild Tryd.prog 50 [(0, .int .i32 x.1), (1, .int .i32 x.2)] w K = K (.agg (encR x).toArray) w := fun x w K =>
    sBuild_of (lp := [(0, [.int .i32 x.1]), (1, [.int .i32 x.2])]) S.tze_bodkinref02_Range S.tpl_bodkinref02_Range rfl rfl
  rw [bld (768, 879), bld (8203, 8207), bld (65024, 65039)]
  refine sBuildSlice_new (lp := [(0, encR (768, 879)), (1, encR (8203, 8207)), (2, encR (65024, 65039))]) (cs := zeroL.flatMap encR) S.tel_L_bodkinref02_Range S.tsz_bodkinref02_Range (by decide) S.tze_bodkinref02_Range (by decide) rfl rfl fun b1 w1 hb1 hs1 he1 hk1 => ?_
  rw [bld (4352, 4447), bld (11904, 12350), bld (12353, 19903), bld (19968, 40959), bld (44032, 55203), bld (63744, 64255), bld (65280, 65376), bld (127744, 128591)]
  refine sBuildSlice_new (lp := [(0, encR (4352, 4447)), (1, encR (11904, 12350)), (2, encR (12353, 19903)), (3, encR (19968, 40959)), (4, encR (44032, 55203)), (5, encR (63744, 64255)), (6, encR (65280, 65376)), (7, encR (127744, 128591))]) (cs := wideL.flatMap encR)
    S.tel_L_bodkinref02_Range S.tsz_bodkinref02_Range (by decide) S.tze_bodkinref02_Range (by decide) rfl rfl fun b2 w2 hb2 hs2 he2 hk2 => ?_
  rw [sBuild_of (lp := [(0, [.slice (some ⟨b1, 0, none⟩) 3 3]), (1, [.slice (some ⟨b2, 0, none⟩) 8 8])]) (cs := [.slice (some ⟨b1, 0, none⟩) 3 3, .slice (some ⟨b2, 0, none⟩) 8 8]) S.tze_bodkinref02_Table S.tpl_bodkinref02_Table rfl rfl]
  refine sBox_new rfl fun b3 w3 hb3 hs3 he3 hk3 => ⟨(he1.trans he2).trans he3, b3, 0, _, _, rfl, hk3.cells, ?_, ?_⟩
  · exact Blk.sl (xs := zeroL) (hk1.ext (he2.trans he3)) encR_ok (by decide)
  · exact Blk.sl (xs := wideL) (hk2.ext he3) encR_ok (by decide)

theorem three_spec {w : World} (hG : Glob w) : sCall Tryd.prog S.bodkinlaw02_three.n [] w fun v w' => Ext w w' ∧ v = .bool true := by
  refine S.bodkinlaw02_three.call ?_
  unfold S.bodkinlaw02_three
  refine (plain_spec hG).mono ?_
  rintro p w1 ⟨e1, ht⟩
  refine (of_spec ht fine_plain 97).mono ?_
  rintro u w' ⟨rfl, rfl⟩
  rw [show ofT zeroL wideL 97 = 1 from by decide, sBin_eql, sIf_pos rfl]
  refine (of_spec ht fine_plain 19968).mono ?_
  rintro u w' ⟨rfl, rfl⟩
  rw [show ofT zeroL wideL 19968 = 2 from by decide, sBin_eql, sIf_pos rfl]
  refine (of_spec ht fine_plain 769).mono ?_
  rintro u w' ⟨rfl, rfl⟩
  rw [show ofT zeroL wideL 769 = 0 from by decide, sBin_eql, sIf_pos rfl]
  refine sBuildSlice_new (lp := [(0, [.int .i32 97]), (1, [.int .i32 19968]), (2, [.int .i32 769])]) (cs := [97, 19968, 769].flatMap (encI .i32)) S.tel_L_int32 S.tsz_int32 (by decide) S.tze_int32 (by decide) rfl rfl fun b2 w2 hb2 hs2 he2 hk2 => ?_
  refine (sum_spec (f := ofT zeroL wideL) (ls := [97, 19968, 769]) (Blk.sl (xs := [97, 19968, 769]) hk2 (encI_ok .i32) (by decide)) (by decide) (ofT_le _ _) fun r => of_spec (ht.ext he2) fine_plain r).mono ?_
  rintro u w3 ⟨rfl, rfl⟩
  rw [show sumF (ofT zeroL wideL) [97, 19968, 769] = 3 from by decide, sBin_eql]
  exact ⟨e1.trans he2, rfl⟩

/-- The law's answer. -/
abbrev Yes (w : World) : K1 := fun v w' => Ext w w' ∧ v = .bool true
theorem then_three {w w1 : World} (hG : Glob w) (e : Ext w w1) : sCall Tryd.prog S.bodkinlaw02_three.n [] w1 (Yes w) :=
  (three_spec (hG.ext e)).mono fun _ _ ⟨e2, h⟩ => ⟨e.trans e2, h⟩

theorem widthPlain_spec {w : World} (hG : Glob w) (r : Int) : S.bodkinlaw02_WidthPlain (Yes w) (.int .i32 r) w := by
  unfold S.bodkinlaw02_WidthPlain
  refine (plain_spec hG).mono ?_
  rintro p w1 ⟨e1, ht⟩
  refine (of_spec ht fine_plain r).mono ?_
  rintro u w' ⟨rfl, rfl⟩
  refine (refplain_spec _).mono ?_
  rintro q w2 ⟨e2, hq⟩
  refine (refof_spec hq (by decide) (by decide) r).mono ?_
  rintro u w3 ⟨e3, rfl⟩
  rw [sBin_eql, sIf_pos rfl]
  exact then_three hG ((e1.trans e2).trans e3)

theorem widthNil_spec {w : World} (hG : Glob w) {l : Value} {ls : List Int} (hl : Sl w l 1 (encI .i32) ls) : S.bodkinlaw02_WidthNil (Yes w) l w := by
  unfold S.bodkinlaw02_WidthNil
  rw [sLen_sl S.tel_L_int32 hl, sBin_gtr, sIf_dec]
  refine ⟨fun _ => then_three hG (Ext.refl w), fun hn => ?_⟩
  refine (of_nil_spec 97).mono ?_
  rintro u w' ⟨rfl, rfl⟩
  rw [sBin_eql, sIf_pos rfl]
  refine (of_nil_spec 19968).mono ?_
  rintro u w' ⟨rfl, rfl⟩
  rw [sBin_eql, sIf_pos rfl]
  refine (sum_spec (f := fun _ => 1) hl (by omega) (fun _ => by omega) fun r => of_nil_spec r).mono ?_
  rintro u w' ⟨rfl, rfl⟩
  have hsum : ∀ (ls : List Int) (a : Int), (ls.map fun _ => (1 : Int)).foldl (· + ·) a = a + ls.length := by
    intro ls
    induction ls with
    | nil => intro a; simp
    | cons x ls ih => intro a; simp only [List.map_cons, List.foldl_cons, ih, List.length_cons]; omega
  rw [sLen_sl S.tel_L_int32 hl, sBin_eql, sIf_pos (by unfold sumF; rw [hsum]; omega)]
  exact then_three hG (Ext.refl _)

theorem sumF_append (f : Int → Int) (a b : List Int) : sumF f (a ++ b) = sumF f a + sumF f b := by
  have key : ∀ (l : List Int) (c : Int), (l.map f).foldl (· + ·) c = c + (l.map f).foldl (· + ·) 0 := by
    intro l
    induction l with
    | nil => intro c; simp
    | cons x l ih => intro c; simp only [List.map_cons, List.foldl_cons]; rw [ih (c + f x), ih (0 + f x)]; omega
  unfold sumF
  rw [List.map_append, List.foldl_append, key b]

theorem widthSums_spec {w : World} (hG : Glob w) {l : Value} {ls : List Int} (hl : Sl w l 1 (encI .i32) ls) (at_ : Int) : S.bodkinlaw02_WidthSums (Yes w) l (.int .i64 at_) w := by
  unfold S.bodkinlaw02_WidthSums
  rw [sLen_sl S.tel_L_int32 hl, sBin_gtr, sIf_dec, sBin_lss, sIf_dec, sLen_sl S.tel_L_int32 hl, sBin_gtr, sIf_dec]
  refine ⟨fun _ => then_three hG (Ext.refl w), fun hn => ⟨fun _ => then_three hG (Ext.refl w), fun h0 => ⟨fun _ => then_three hG (Ext.refl w), fun h1 => ?_⟩⟩⟩
  obtain ⟨n, rfl⟩ : ∃ n : Nat, at_ = n := ⟨at_.toNat, by omega⟩
  refine (plain_spec hG).mono ?_
  rintro p w1 ⟨e1, ht⟩
  refine DrawS.ext ?_
  have hl1 := hl.ext e1
  have E0 : Ext w1 w1.drew := (Ext.refl w1).drew
  have hof : ∀ {w2 : World}, Ext w1 w2 → ∀ r, sCall Tryd.prog S.width_Table_Of.n [p, .int .i32 r] w2 fun u w' => w' = w2 ∧ u = .int .i64 (ofT zeroL wideL r) := fun e2 r => of_spec (ht.ext e2) fine_plain r
  refine (sum_spec (hl1.ext E0) (by omega) (ofT_le zeroL wideL) (hof E0)).mono ?_
  rintro u w' ⟨rfl, rfl⟩
  refine ⟨E0, (refplain_spec _).mono ?_⟩
  rintro q w2 ⟨e2, hq⟩
  have E2 := E0.trans e2
  refine ⟨E2, (refsum_spec hq (by decide) (by decide) (hl1.ext E2) (by omega)).mono ?_⟩
  rintro u w3 ⟨e3, rfl⟩
  have E3 := E2.trans e3
  refine ⟨E3, ?_⟩
  simp only [sBin_eql, stillS_ret]
  rw [sIf_pos trivial, stillS_eq (fun w1 h1 K => sSlice_h S.tel_L_int32 S.tsz_int32 (by omega) (hl1.ext h1) rfl (by omega)) E3, stillS_eq (fun w1 h1 K => sSlice_l S.tel_L_int32 S.tsz_int32 (by omega) (hl1.ext h1) rfl (by omega)) E3]
  have hcap : ls.length ≤ capV l := by obtain ⟨a, cap, rfl, hc, _⟩ := hl; exact hc
  have ha : Sl w1 (slV l 1 0 n (capV l)) 1 (encI .i32) (ls.take n) := by
    have := hl1.part (lo := 0) (hi := n) (mx := capV l) (by omega) (by omega) (by omega) (Nat.le_refl _)
    simpa using this
  have hb : Sl w1 (slV l 1 n ls.length (capV l)) 1 (encI .i32) (ls.drop n) := by
    have := hl1.part (lo := n) (hi := ls.length) (mx := capV l) (by omega) (by omega) (by omega) (Nat.le_refl _)
    simpa using this
  refine (sum_spec (hl1.ext E3) (by omega) (ofT_le zeroL wideL) (hof E3)).mono ?_
  rintro u w' ⟨rfl, rfl⟩
  refine ⟨E3, (sum_spec (ha.ext E3) (by rw [List.length_take]; omega) (ofT_le zeroL wideL) (hof E3)).mono ?_⟩
  rintro u w' ⟨rfl, rfl⟩
  refine ⟨E3, (sum_spec (hb.ext E3) (by rw [List.length_drop]; omega) (ofT_le zeroL wideL) (hof E3)).mono ?_⟩
  rintro u w' ⟨rfl, rfl⟩
  refine ⟨E3, ?_⟩
  have b1 := sumF_bd (ofT_le zeroL wideL) (ls.take n)
  have b2 := sumF_bd (ofT_le zeroL wideL) (ls.drop n)
  have l1 := List.length_take_le n ls
  have l2 : (ls.drop n).length ≤ ls.length := by rw [List.length_drop]; omega
  rw [stillS_eq (fun w1 h1 K => sBin_add _ _ ⟨by omega, by omega⟩) E3]
  simp only [sBin_eql, stillS_ret]
  rw [sIf_pos (by rw [← sumF_append, List.take_append_drop])]
  exact (three_spec (hG.ext (e1.trans E3))).mono fun v w4 ⟨e4, h⟩ => ⟨E3.trans e4, (e1.trans E3).trans e4, h⟩
end Go.Proofs.YtchblkoipojcbaaDoor
