/- What 'WidthKeeps' answers: true. Condition: the package's two tables hold what its text says. -/
import Derived.Test.YtchblkoipojcbaaDoorW6
namespace Go.Proofs.YtchblkoipojcbaaDoor
open Go Go.Lift Go.RowKit

theorem widthKeeps_spec {w : World} (hG : Glob w) {z v : Value} {zs ws : List Rg} (hz : Sl w z 2 encR zs) (hv : Sl w v 2 encR ws) (r : Int) : S.bodkinlaw02_WidthKeeps (Yes w) z v (.int .i32 r) w := by
  unfold S.bodkinlaw02_WidthKeeps
  rw [sLen_sl S.tel_L_width_Range hz, sBin_gtr, sIf_dec, sLen_sl S.tel_L_width_Range hv, sBin_gtr, sIf_dec]
  refine ⟨fun _ => then_three hG (Ext.refl w), fun h1 => ⟨fun _ => then_three hG (Ext.refl w), fun h2 => ?_⟩⟩
  refine sAppend_own (base := w.heap.size) (enc := encR) (xs := []) S.tel_L_width_Range S.tsz_width_Range (by decide) S.tze_width_Range rfl encR_ok (Own.nil _ _ _ _ _) (Nat.le_refl _) hz (by have : maxLen = 9223372036854775807 := rfl; simp; omega) (by rw [S.tby_width_Range]; simp; omega) fun c w1 ho1 hg1 => ?_
  have e1 : Ext w w1 := (Ext.refl w).wr hg1 fun g hg => by cases hg
  rw [List.nil_append] at ho1
  refine (new_spec (ho1.sl encR_ok) (hv.ext e1)).mono ?_
  rintro u w2 ⟨e2, hbig, hbad, hgood⟩
  have hnew : ∃ p n, u = .tuple #[.pointer p, .int .i64 n] ∧ ((p = none ∧ n ≠ 0) ∨
      (∃ b x y, p = some ⟨b, 0, none⟩ ∧ n = 0 ∧ Fine zs ws ∧ w1.heap.size ≤ b ∧ Blk w2 b [x, y] ∧ Own w2 w1.heap.size S.T.width_Range 2 x encR zs ∧ Own w2 w1.heap.size S.T.width_Range 2 y encR ws)) := by
    by_cases hB : TooBig zs ws
    · exact ⟨_, _, hbig hB, .inl ⟨rfl, by decide⟩⟩
    · by_cases hR : Rt zs ∧ Rt ws
      · obtain ⟨b, x, y, hu, hb, hk, hx, hy⟩ := hgood hB hR.1 hR.2
        exact ⟨_, _, hu, .inr ⟨b, x, y, rfl, rfl, ⟨hR.1.ris, hR.2.ris, by omega, by omega⟩, hb, hk, hx, hy⟩⟩
      · exact ⟨_, _, hbad hB hR, .inl ⟨rfl, by decide⟩⟩
  obtain ⟨p, n, rfl, hcase⟩ := hnew
  rw [sExtract_0, sExtract_1]
  have E := e1.trans e2
  rcases hcase with ⟨rfl, hn⟩ | ⟨b, x, y, rfl, rfl, hf, hb, hk, hx, hy⟩
  · refine JoinS.intro (fun us w' => w' = w2 ∧ us = [.bool true]) ?_ ?_
    · rw [sBin_neq, sIf_not]
      exact ⟨fun _ => ⟨rfl, rfl⟩, fun h => absurd h hn⟩
    rintro us vs w2 ⟨rfl, rfl⟩
    unfold S.bodkinlaw02_WidthKeeps_J1
    rw [hd, sIf_true, sBin_neq, sIf_not]
    refine ⟨fun _ => ?_, fun h => absurd h hn⟩
    rw [sBin_ptr_eq S.tpt_P_width_Table, Option.isNone_none, sIf_true]
    exact then_three hG E
  refine JoinS.intro (fun us w' => w' = w2 ∧ us = [.bool false]) ?_ ?_
  · rw [sBin_neq, sIf_not]
    refine ⟨fun h => absurd rfl h, fun _ => ?_⟩
    rw [sBin_ptr_eq S.tpt_P_width_Table, Option.isNone_some]
    exact ⟨rfl, rfl⟩
  rintro us vs w2 ⟨rfl, rfl⟩
  unfold S.bodkinlaw02_WidthKeeps_J1
  rw [hd, sIf_false]
  have tab : ∀ {w3 : World}, Blk w3 b [x, y] → Own w3 w1.heap.size S.T.width_Range 2 x encR zs → Own w3 w1.heap.size S.T.width_Range 2 y encR ws → TabR w3 (.pointer (some ⟨b, 0, none⟩)) zs ws :=
    fun h1 h2 h3 => ⟨b, 0, x, y, rfl, h1.cells, h2.sl encR_ok, h3.sl encR_ok⟩
  refine (of_spec (tab hk hx hy) hf r).mono ?_
  rintro u w' ⟨rfl, rfl⟩
  have ho2 := ho1.ext e2
  rw [sLen_sl S.tel_L_width_Range (ho2.sl encR_ok)]
  refine LoopS.intro (fun us w3 => Ext w w3 ∧ ∃ (i : Nat) (ys : List Rg), us = [.int .i64 i] ∧ i ≤ zs.length ∧ ys.length = zs.length ∧ Own w3 w.heap.size S.T.width_Range 2 c encR ys ∧ Blk w3 b [x, y] ∧ Own w3 w1.heap.size S.T.width_Range 2 x encR zs ∧ Own w3 w1.heap.size S.T.width_Range 2 y encR ws)
    (fun us _ => match us with | [.int _ a] => (zs.length - a).toNat | _ => 0) ⟨E, 0, zs, rfl, Nat.zero_le _, rfl, ho2, hk, hx, hy⟩ ?_
  rintro us vs w3 ⟨E3, i, ys, rfl, hi, hl, ho3, hk3, hx3, hy3⟩
  unfold S.bodkinlaw02_WidthKeeps_L2
  rw [hd, sBin_lss, sIf_dec]
  refine ⟨fun hlt => ?_, fun hge => ?_⟩
  · rw [sBuild_of (lp := [(0, [.int .i32 r]), (1, [.int .i32 r])]) (cs := encR (r, r)) S.tze_width_Range S.tpl_width_Range rfl rfl]
    obtain ⟨q, hq⟩ : ∃ q, ys[i]? = some q := ⟨_, List.getElem?_eq_getElem (by omega)⟩
    rw [sIdxA_sl S.tel_L_width_Range S.tsz_width_Range (by omega) (ho3.sl encR_ok) hq rfl]
    refine sStore_own (x := (r, r)) S.tsz_width_Range (by decide) encR_ok ho3 (by omega) rfl fun w4 hs4 hg4 ho4 => ?_
    rw [sBin_add _ _ ⟨by omega, by omega⟩]
    have hlt1 : ∀ g, c.ownBlock = some g → w.heap.size ≤ g ∧ g < w1.heap.size := fun g hg => ho1.lt g hg
    have hne : ∀ {t : Value} {us : List Rg}, Own w3 w1.heap.size S.T.width_Range 2 t encR us → t.ownBlock = none ∨ t.ownBlock ≠ c.ownBlock := by
      intro t us ht
      cases hv : t.ownBlock with
      | none => exact .inl rfl
      | some g => exact .inr fun e => by have := ht.lt g hv; have := hlt1 g e.symm; omega
    refine ⟨⟨E3.wr hg4 fun g hg => (hlt1 g hg).1, i + 1, _, by simp, by omega, by rw [List.length_set]; exact hl, ho4, hk3.wr hg4 fun e => by have := hlt1 b e.symm; omega, hx3.wr hg4 (hne hx3), hy3.wr hg4 (hne hy3)⟩, by simp only []; omega⟩
  · refine (of_spec (tab hk3 hx3 hy3) hf r).mono ?_
    rintro u w' ⟨rfl, rfl⟩
    rw [sBin_eql, sIf_pos rfl]
    exact then_three hG E3
end Go.Proofs.YtchblkoipojcbaaDoor
