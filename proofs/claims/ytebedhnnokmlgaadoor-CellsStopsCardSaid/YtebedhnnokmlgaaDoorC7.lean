/- What 'CellsStops' answers: true. Condition: the package's two tables hold what its text says. -/
import Derived.Test.YtebedhnnokmlgaaDoorC6
namespace Go.Proofs.YtebedhnnokmlgaaDoor
open Go Go.Lift Go.RowKit

theorem sBin_bool_ne {P : Program} {T : TypeId} {w : World} {K : K1} {cx cy : Bool} (hT : P.underlying T = some .bool) (a b : Bool) : sBin P .neq T cx cy (.bool a) (.bool b) w K = K (.bool (!(a == b))) w := by
  have hr : (do eqGuard .neq T (bif cx then .const (.bool a) else .tmp 0) (bif cy then .const (.bool b) else .tmp 0) (.bool a) (.bool b); binOp .neq T (.bool a) (.bool b) : Sem Value).run P w = .ok (.bool (!(a == b))) w := by
    have hg : eqGuard .neq T (bif cx then .const (.bool a) else .tmp 0) (bif cy then .const (.bool b) else .tmp 0) (.bool a) (.bool b) = pure () := rfl
    have hb : binOp .neq T (.bool a) (.bool b) = (do pure (.bool (!(← Op.equal T (.bool a) (.bool b))))) := rfl
    rw [hg, hb, Sem.run_bind, Sem.run_pure, Result.andThen_ok, Sem.run_bind]
    unfold Op.equal Op.maxDepth
    rw [run_equalIn_bool w 9999 T a b hT]
    rfl
  unfold sBin after
  rw [hr]
theorem tbool : Tryd.prog.underlying 4 = some .bool := Tryd.underlying4

theorem cellsStops_spec {w : World} (hG : Glob w) {l : Value} {cs : List Ce} (hl : Sl w l 4 encC cs) : S.bodkinlaw18_CellsStops (Yes w) l w := by
  unfold S.bodkinlaw18_CellsStops
  rw [sLen_sl S.tel_L_api_Cell hl, sBin_gtr, sIf_dec]
  refine ⟨fun _ => then_four hG (Ext.refl w), fun hn => ?_⟩
  refine (stops_spec hl (by omega)).mono ?_
  rintro x w1 ⟨e1, bs, hx, hbl, hT⟩
  have hxs := hx.sl encB_ok
  rw [sLen_sl S.tel_L_bool hxs, sLen_sl S.tel_L_api_Cell (hl.ext e1), sBin_neq, sIf_not]
  refine ⟨fun h => absurd (by omega) h, fun _ => ?_⟩
  rw [sLen_sl S.tel_L_api_Cell (hl.ext e1)]
  refine LoopS.intro (fun us w2 => Ext w1 w2 ∧ ∃ i : Nat, us = [.int .i64 (wids (cs.take i)), .int .i64 i] ∧ i ≤ cs.length ∧ ∀ c ∈ cs.take i, 0 ≤ c.2.2.1 ∧ c.2.2.1 ≤ 1099511627776)
    (fun us _ => match us with | [_, .int _ a] => (cs.length - a).toNat | _ => 0) ⟨Ext.refl _, 0, rfl, Nat.zero_le _, by simp⟩ ?_
  rintro us vs w2 ⟨e2, i, rfl, hi, hb⟩
  unfold S.bodkinlaw18_CellsStops_L1
  have E2 := e1.trans e2
  rw [hd, tl, hd, sBin_lss, sIf_dec]
  refine ⟨fun hlt => ?_, fun hge => ?_⟩
  · obtain ⟨c, hc⟩ : ∃ x, cs[i]? = some x := ⟨_, List.getElem?_eq_getElem (by omega)⟩
    obtain ⟨t, ht⟩ : ∃ x, bs[i]? = some x := ⟨_, List.getElem?_eq_getElem (by omega)⟩
    obtain ⟨b1, o1, hel1, hc1⟩ := (hl.ext E2).el hc
    rw [sIdxA_sl S.tel_L_api_Cell S.tsz_api_Cell (by omega) (hl.ext E2) hc rfl, hel1, sLoad_agg S.tagg_api_Cell hc1 rfl]
    refine sVar S.tze_api_Cell S.tsz_api_Cell (by decide) rfl rfl (encC_ok.one c) fun b2 w3 hb2 hs2 he3 hk => ?_
    have E3 := E2.trans he3
    have hw := wids_bd hb
    have hlen : (cs.take i).length = i := by rw [List.length_take]; omega
    rw [hlen] at hw
    rw [sFldA_ptr S.tfl_api_Cell_Width, sLoad_cell S.tcell_int (hk.cells.at 2 rfl), sBin_lss, sIf_dec]
    refine ⟨fun _ => then_four hG E3, fun h1 => ?_⟩
    rw [sFldA_ptr S.tfl_api_Cell_Width, sLoad_cell S.tcell_int (hk.cells.at 2 rfl), sBin_gtr, sIf_dec]
    refine ⟨fun _ => then_four hG E3, fun h2 => ?_⟩
    rw [sFldA_ptr S.tfl_api_Cell_Width, sLoad_cell S.tcell_int (hk.cells.at 2 rfl), sBin_add _ _ ⟨by omega, by omega⟩]
    have hnext : ∀ w5, Ext w1 w5 → ((Ext w1 w5 ∧ ∃ j : Nat, [Value.int .i64 (wids (cs.take i) + c.2.2.1), .int .i64 ((i : Int) + 1)] = [.int .i64 (wids (cs.take j)), .int .i64 j] ∧ j ≤ cs.length ∧ ∀ c ∈ cs.take j, 0 ≤ c.2.2.1 ∧ c.2.2.1 ≤ 1099511627776) ∧ (cs.length - ((i : Int) + 1)).toNat < (cs.length - (i : Int)).toNat) := by
      intro w5 e5
      refine ⟨⟨e5, i + 1, ?_, by omega, ?_⟩, by omega⟩
      · rw [take_succ_of hc, wids_append]; simp [wids]
      · intro d hd'
        rw [take_succ_of hc] at hd'
        rcases List.mem_append.1 hd' with h | h
        · exact hb d h
        · simp at h; subst h; omega
    refine DrawS.ext ?_
    have E : Ext w3 w3.drew := (Ext.refl w3).drew
    have F3 := e2.trans he3
    obtain ⟨b4, o4, hel4, hc4⟩ := (hxs.ext F3).el ht
    rw [stillS_eq (fun w1 h1 K => sIdxA_sl S.tel_L_bool S.tsz_bool (by omega) ((hxs.ext F3).ext h1) ht rfl) E, hel4, stillS_cell S.tcell_bool (hc4.fst rfl) E]
    refine (refstop_spec ((hl.ext E3).ext E) hc).mono ?_
    rintro u w5 ⟨e5, r, rfl, hr⟩
    have E5 := E.trans e5
    have htr : t = r := by rw [Bool.eq_iff_iff, hT i c t hc ht, hr]
    subst htr
    refine ⟨E5, ?_⟩
    rw [stillS_eq (fun w1 h1 K => sBin_bool_ne tbool t t) E5, beq_self_eq_true, Bool.not_true, sIf_false, stillS_agg S.tagg_api_Cell hk.cells rfl E5, stillS_eq (fun w1 h1 K => sFldA_ptr S.tfl_api_Cell_Rune) E5, stillS_cell S.tcell_int32 (hk.cells.at 0 rfl) E5, stillS_eq (fun w1 h1 K => sBin_eql _ _) E5]
    refine (blank_spec c).mono ?_
    rintro u w6 ⟨e6, r2, rfl, hr2⟩
    have E6 := E5.trans e6
    refine ⟨E6, ?_⟩
    rw [sIf_dec]
    refine ⟨fun h32 => ?_, fun h32 => ?_⟩
    · rw [hr2.2 (.inl h32), stillS_eq (fun w1 h1 K => sBin_bool_ne tbool true true) E6, beq_self_eq_true, Bool.not_true, sIf_false, sBin_add _ _ ⟨by omega, by omega⟩]
      exact hnext _ (F3.trans E6)
    · have h9 : decide (c.1 = 9) = r2 := by rw [Bool.eq_iff_iff, hr2, decide_eq_true_eq]; omega
      rw [stillS_eq (fun w1 h1 K => sFldA_ptr S.tfl_api_Cell_Rune) E6, stillS_cell S.tcell_int32 (hk.cells.at 0 rfl) E6, stillS_eq (fun w1 h1 K => sBin_eql _ _) E6, h9, stillS_eq (fun w1 h1 K => sBin_bool_ne tbool r2 r2) E6, beq_self_eq_true, Bool.not_true, sIf_false, sBin_add _ _ ⟨by omega, by omega⟩]
      exact hnext _ (F3.trans E6)
  · obtain rfl : i = cs.length := by omega
    rw [List.take_length] at hb
    rw [List.take_length]
    refine (width_spec (hl.ext E2) hb (by omega)).mono ?_
    rintro u w3 ⟨e3, rfl⟩
    rw [sBin_eql, sIf_pos rfl]
    exact then_four hG (E2.trans e3)
end Go.Proofs.YtebedhnnokmlgaaDoor
