/- Cells: how wide they are, which are stops, which are blank. Conditions: cells in memory; widths that can be summed. -/
import Derived.Test.YtebedhnnokmlgaaDoorT5
namespace Go.Proofs.YtebedhnnokmlgaaDoor
open Go Go.Lift Go.RowKit

/-- A cell: its rune, its kind, its width, its place. -/
abbrev Ce := Int × Int × Int × Int
def encC (c : Ce) : List Value := [.int .i32 c.1, .int .i64 c.2.1, .int .i64 c.2.2.1, .int .i64 c.2.2.2]
theorem encC_ok : Enc encC 4 := ⟨fun _ => rfl, fun x u hu => by simp [encC] at hu; rcases hu with rfl | rfl | rfl | rfl <;> rfl⟩
theorem flatC : flatQ Tryd.prog S.T.api_Cell = some [21, 3, 3, 3] := by kernel_rfl
theorem fitC (x : Ce) : fitB Tryd.prog [21, 3, 3, 3] (encC x) = true := by kernel_rfl
theorem encC_inj {x y : Ce} (h : encC x = encC y) : x = y := by
  obtain ⟨a, b, c, d⟩ := x; obtain ⟨a', b', c', d'⟩ := y
  simp [encC] at h; simp [h]
def wids (cs : List Ce) : Int := (cs.map fun c => c.2.2.1).foldl (· + ·) 0
theorem foldl_add (l : List Int) : ∀ a : Int, l.foldl (· + ·) a = a + l.foldl (· + ·) 0 := by
  induction l with
  | nil => intro a; simp
  | cons x l ih => intro a; simp only [List.foldl_cons]; rw [ih (a + x), ih (0 + x)]; omega
theorem wids_append (a b : List Ce) : wids (a ++ b) = wids a + wids b := by
  unfold wids; rw [List.map_append, List.foldl_append, foldl_add]
theorem wids_bd {cs : List Ce} (h : ∀ c ∈ cs, 0 ≤ c.2.2.1 ∧ c.2.2.1 ≤ 1099511627776) : 0 ≤ wids cs ∧ wids cs ≤ 1099511627776 * cs.length := by
  induction cs with
  | nil => simp [wids]
  | cons c cs ih =>
    have h1 := h c (by simp)
    have h2 := ih fun x hx => h x (by simp [hx])
    have : wids (c :: cs) = c.2.2.1 + wids cs := by
      have := wids_append [c] cs
      simp only [List.singleton_append] at this
      rw [this]; simp [wids]
    rw [this, List.length_cons]
    omega

theorem width_spec {w : World} {l : Value} {cs : List Ce} (hl : Sl w l 4 encC cs) (hb : ∀ c ∈ cs, 0 ≤ c.2.2.1 ∧ c.2.2.1 ≤ 1099511627776) (hn : cs.length ≤ 1000000) :
    sCall Tryd.prog S.cells_Width.n [l] w fun u w' => Ext w w' ∧ u = .int .i64 (wids cs) := by
  refine S.cells_Width.call ?_
  unfold S.cells_Width
  rw [sLen_sl S.tel_L_api_Cell hl]
  refine LoopS.intro (fun us w1 => Ext w w1 ∧ ∃ i : Nat, us = [.int .i64 (wids (cs.take i)), .int .i64 i] ∧ i ≤ cs.length)
    (fun us _ => match us with | [_, .int _ a] => (cs.length - a).toNat | _ => 0) ⟨Ext.refl w, 0, rfl, Nat.zero_le _⟩ ?_
  rintro us vs w1 ⟨he, i, rfl, hi⟩
  unfold S.cells_Width_L1
  rw [hd, tl, hd, sBin_lss, sIf_dec]
  refine ⟨fun hlt => ?_, fun hge => ⟨he, by rw [List.take_of_length_le (by omega)]⟩⟩
  obtain ⟨x, hx⟩ : ∃ x, cs[i]? = some x := ⟨_, List.getElem?_eq_getElem (by omega)⟩
  obtain ⟨b, o, hel, hc⟩ := (hl.ext he).el hx
  rw [sIdxA_sl S.tel_L_api_Cell S.tsz_api_Cell (by omega) (hl.ext he) hx rfl, hel, sLoad_agg S.tagg_api_Cell hc rfl]
  refine sVar S.tze_api_Cell S.tsz_api_Cell (by decide) rfl rfl (encC_ok.one x) fun b2 w2 hb2 hs2 he2 hk => ?_
  have h1 := wids_bd (cs := cs.take i) fun c hc => hb c (List.mem_of_mem_take hc)
  have h2 := hb x (List.mem_of_getElem? hx)
  have h3 : (cs.take i).length = i := by rw [List.length_take]; omega
  rw [h3] at h1
  rw [sFldA_ptr S.tfl_api_Cell_Width, sLoad_cell S.tcell_int (hk.cells.at 2 rfl), sBin_add _ _ ⟨by omega, by omega⟩, sBin_add _ _ ⟨by omega, by omega⟩]
  refine ⟨⟨he.trans he2, i + 1, ?_, by omega⟩, by simp only []; omega⟩
  rw [take_succ_of hx, wids_append]
  simp [wids]

theorem blank_spec {w : World} (c : Ce) : sCall Tryd.prog S.cells_Blank.n [.agg (encC c).toArray] w fun u w' => Ext w w' ∧ ∃ r, u = .bool r ∧ (r = true ↔ c.1 = 32 ∨ c.1 = 9) := by
  refine S.cells_Blank.call ?_
  unfold S.cells_Blank
  refine sBox_new (cs := encC c) rfl fun b w1 hb hs1 he1 hk1 => ?_
  rw [sFldA_ptr S.tfl_api_Cell_Rune, sLoad_cell S.tcell_int32 (hk1.cells.at 0 rfl), sBin_eql, sIf_dec, sFldA_ptr S.tfl_api_Cell_Rune, sLoad_cell S.tcell_int32 (hk1.cells.at 0 rfl), sBin_eql]
  refine ⟨fun h => ⟨he1, true, rfl, by simp [h]⟩, fun h => ⟨he1, _, rfl, ?_⟩⟩
  rw [decide_eq_true_eq]; omega

/-- Is the i'th cell a stop? -/
def stopAt (cs : List Ce) (i : Nat) (c : Ce) : Prop := c.2.1 = 1 ∨ c.2.1 = 3 ∨ (c.2.1 = 2 ∧ (i = 0 ∨ ∃ d, cs[i - 1]? = some d ∧ d.2.2.2 ≠ c.2.2.2))

theorem refstop_spec {w : World} {l : Value} {cs : List Ce} (hl : Sl w l 4 encC cs) {i : Nat} {c : Ce} (hx : cs[i]? = some c) :
    sCall Tryd.prog S.bodkinref18_Stop.n [l, .int .i64 i] w fun u w' => Ext w w' ∧ ∃ r, u = .bool r ∧ (r = true ↔ stopAt cs i c) := by
  refine S.bodkinref18_Stop.call ?_
  unfold S.bodkinref18_Stop
  have hn := hl.len_le
  have hi := (List.getElem?_eq_some_iff.1 hx).1
  obtain ⟨b, o, hel, hc⟩ := hl.el hx
  rw [sIdxA_sl S.tel_L_api_Cell S.tsz_api_Cell (by omega) hl hx rfl, hel, sLoad_agg S.tagg_api_Cell hc rfl]
  refine sVar S.tze_api_Cell S.tsz_api_Cell (by decide) rfl rfl (encC_ok.one c) fun b2 w2 hb2 hs2 he2 hk => ?_
  refine DrawS.ext ?_
  have E : Ext w2 w2.drew := (Ext.refl w2).drew
  have kd := hk.cells.at 1 rfl
  rw [stillS_eq (fun w1 h1 K => sFldA_ptr S.tfl_api_Cell_Kind) E, stillS_cell S.tcell_int kd E, stillS_eq (fun w1 h1 K => sBin_eql _ _) E, sIf_dec]
  refine ⟨fun h => ⟨he2.trans E, true, rfl, by simp [stopAt, h]⟩, fun h1 => ?_⟩
  rw [stillS_eq (fun w1 h1 K => sFldA_ptr S.tfl_api_Cell_Kind) E, stillS_cell S.tcell_int kd E, stillS_eq (fun w1 h1 K => sBin_eql _ _) E, sIf_dec]
  refine ⟨fun h => ⟨he2.trans E, true, rfl, by simp [stopAt, h]⟩, fun h3 => ?_⟩
  rw [stillS_eq (fun w1 h1 K => sFldA_ptr S.tfl_api_Cell_Kind) E, stillS_cell S.tcell_int kd E, stillS_eq (fun w1 h1 K => sBin_eql _ _) E, sIf_dec]
  refine ⟨fun h2 => ?_, fun h2 => ⟨he2.trans E, false, rfl, by simp [stopAt, h1, h2, h3]⟩⟩
  rw [stillS_eq (fun w1 h1 K => sBin_eql _ _) E, sIf_dec]
  refine ⟨fun h0 => ⟨he2.trans E, true, rfl, ?_⟩, fun h0 => ?_⟩
  · simp only [true_iff]; exact .inr (.inr ⟨h2, .inl (by omega)⟩)
  · obtain ⟨d, hd'⟩ : ∃ d, cs[i - 1]? = some d := ⟨_, List.getElem?_eq_getElem (by omega)⟩
    obtain ⟨b3, o3, hel3, hc3⟩ := (hl.ext he2).el hd'
    rw [stillS_eq (fun w1 h1 K => sBin_sub _ _ ⟨by omega, by omega⟩) E, stillS_eq (fun w1 h1 K => sIdxA_sl S.tel_L_api_Cell S.tsz_api_Cell (by omega) ((hl.ext he2).ext h1) hd' (by omega)) E, hel3,
      stillS_eq (fun w1 h1 K => sFldA_ptr S.tfl_api_Cell_At) E, stillS_cell S.tcell_int (hc3.at 3 rfl) E, stillS_eq (fun w1 h1 K => sFldA_ptr S.tfl_api_Cell_At) E, stillS_cell S.tcell_int (hk.cells.at 3 rfl) E, stillS_eq (fun w1 h1 K => sBin_neq _ _) E]
    refine ⟨he2.trans E, _, rfl, ?_⟩
    simp only [Bool.not_eq_true', decide_eq_false_iff_not]
    constructor
    · intro h; exact .inr (.inr ⟨h2, .inr ⟨d, hd', h⟩⟩)
    · rintro (h | h | ⟨_, h | ⟨d', hd2, h⟩⟩)
      · exact absurd h h1
      · exact absurd h h3
      · omega
      · rw [hd'] at hd2; cases hd2; exact h
end Go.Proofs.YtebedhnnokmlgaaDoor
