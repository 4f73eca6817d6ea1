/- What 'HistoryMost' answers: true. No conditions. -/
import Derived.Test.YtphpegpbkapieaaW5
namespace Go.Proofs.Ytphpegpbkapieaa
open Go Go.Lift Go.RowKit

def stp (i : Nat) : List Ed × List Ed := ([ed i i], [])
/-- The steps that are left of n, when the last ones are undone. -/
def left (n k : Nat) : List (List Ed × List Ed) := ((List.range k).map stp).drop (n - 100)
theorem left_succ {n k : Nat} (h : n - 100 ≤ k) : left n (k + 1) = left n k ++ [stp k] := by
  unfold left
  rw [List.range_succ, List.map_append, List.drop_append_of_le_length (by simpa using h)]
  rfl
theorem left_nil {n k : Nat} (h : k ≤ n - 100) : left n k = [] := by
  unfold left; exact List.drop_of_length_le (by simpa using h)
theorem cut_left (n : Nat) : cut (left n n ++ [stp n]) = left (n + 1) (n + 1) := by
  have hl : (left n n).length = n - (n - 100) := by unfold left; simp
  rw [← left_succ (by omega)]
  unfold cut
  have : (left n (n + 1)).length = n + 1 - (n - 100) := by unfold left; simp
  rw [this]
  unfold left
  rw [List.drop_drop, show n - 100 + (n + 1 - (n - 100) - 100) = n + 1 - 100 from by omega]
theorem sm_left (n k : Nat) : Sm (left n k) := by
  intro d hd
  unfold left at hd
  obtain ⟨i, _, rfl⟩ := List.mem_map.1 (List.mem_of_mem_drop hd)
  simp [stp]
theorem left_len (n : Nat) : (left n n).length = n - (n - 100) := by unfold left; simp

theorem most_undo {w w0 : World} {base b n : Nat} (e0 : w0.heap.size ≤ base) (e1 : w0.heap.size ≤ b) (F0 : ∃ w1, Ext w0 w1 ∧ Frm S.T.history_Step base b w1 w) (hbase : base ≤ w.heap.size) (hn : n ≤ 260) (H : Hist w base b (left n n) []) {many : Nat} (hm : many = n - (n - 100)) :
    LoopS [(.int .i64 0)] 1 31 w fun us _ w Nx4 => S.bodkinlaw12_HistoryMost_L4 (Yes w0) Nx4 (.int .i64 many) (.int .i64 n) (.pointer (some ⟨b, 0, none⟩)) (hd us) w := by
  obtain ⟨w1, E1, F1⟩ := F0
  refine LoopS.intro (fun us w2 => Frm S.T.history_Step base b w1 w2 ∧ base ≤ w2.heap.size ∧ ∃ i : Nat, us = [.int .i64 i] ∧ i ≤ many ∧ ∃ U, U.length = i ∧ Hist w2 base b (left n (n - i)) U)
    (fun us _ => match us with | [.int _ a] => (many - a).toNat | _ => 0) ⟨F1, hbase, 0, rfl, Nat.zero_le _, [], rfl, H⟩ ?_
  rintro us vs w2 ⟨F2, hb2, i, rfl, hi, U, hU, H2⟩
  unfold S.bodkinlaw12_HistoryMost_L4
  have hll : ∀ k, (left n k).length ≤ 1000 ∨ 260 < k := by
    intro k; unfold left; simp only [List.length_drop, List.length_map, List.length_range]; omega
  rw [hd, sBin_lss, sIf_dec]
  refine ⟨fun hlt => ?_, fun hge => ?_⟩
  · refine (undo_spec H2 hb2 (by have := hll (n - i); omega) (by omega) (sm_left _ _)).mono ?_
    rintro u w3 ⟨F3, v, m, l, rfl, r3, h3⟩
    have hs3 := F3.size
    have hk : n - i = (n - i - 1) + 1 := by omega
    rw [hk, left_succ (by omega)] at h3
    rcases h3 with ⟨h, _⟩ | ⟨D', d, hD, rfl, rfl, H3⟩
    · simp at h
    obtain ⟨rfl, rfl⟩ := snoc_inj hD
    have r3 : Row w3 base S.T.api_Edit 3 v encE [ed ((n - i - 1 : Nat) : Int) ((n - i - 1 : Nat) : Int)] := r3
    have hl1 : ∀ {K : K1}, sBuiltin Try.prog .len [30] 3 [v] w3 K = K (.int .i64 1) w3 := sLen_sl S.tel_L_api_Edit (r3.sl encE_ok)
    rw [sExtract_0, sExtract_1, sBin_neq, sIf_not]
    refine ⟨fun h => absurd rfl h, fun _ => ?_⟩
    rw [hl1, sBin_neq, sIf_not]
    refine ⟨fun h => absurd rfl h, fun _ => ?_⟩
    rw [fromE r3, sBin_sub _ _ ⟨by omega, by omega⟩, sBin_sub _ _ ⟨by omega, by omega⟩, sBin_neq, sIf_not]
    refine ⟨fun h => absurd (by omega) h, fun _ => ?_⟩
    rw [sBin_add _ _ ⟨by omega, by omega⟩]
    refine ⟨⟨F2.trans F3, by omega, i + 1, by simp, by omega, U ++ [stp (n - i - 1)], by simp [hU], H3⟩, by simp only []; omega⟩
  · have him : i = many := by omega
    subst him
    rw [left_nil (by omega)] at H2
    refine (undo_spec H2 hb2 (by simp) (by omega) (by intro d hd; cases hd)).mono ?_
    rintro u w3 ⟨F3, v, m, l, rfl, r3, h3⟩
    rcases h3 with ⟨_, rfl, rfl, H3⟩ | ⟨D', d, hD, _⟩
    · rw [sExtract_0, sExtract_1]
      refine (sizes_spec H3).mono ?_
      rintro u w4 ⟨e4, hu⟩
      have hu : u = .tuple #[.int .i64 0, .int .i64 i] := by rw [hu, hU]; rfl
      subst hu
      rw [sExtract_0, sExtract_1, sBin_eql, sIf_pos rfl, sBin_eql, sIf_pos rfl, sBin_eql, sIf_pos rfl]
      exact then_again (((F2.trans F3).ext E1 e0 e1).trans e4)
    · have := congrArg List.length hD; simp at this

theorem historyMost_spec (w : World) (n : Int) : S.bodkinlaw12_HistoryMost (Yes w) (.int .i64 n) w := by
  unfold S.bodkinlaw12_HistoryMost
  refine (new_spec w).mono ?_
  rintro p w1 ⟨rfl, e1, hs1, hk1⟩
  have hb : w.heap.size < w1.heap.size := by omega
  have H1 : Hist w1 w1.heap.size w.heap.size [] [] := hist_nil hb hk1
  refine JoinS.intro (fun us w' => w' = w1 ∧ ∃ t : Bool, us = [.bool t] ∧ (t = true ↔ (n < 0 ∨ 260 < n))) ?_ ?_
  · rw [sBin_ptr_eq S.tpt_P_history_History, Option.isNone_some, sIf_false, sBin_lss, sIf_dec, sBin_gtr]
    refine ⟨fun h => ⟨rfl, true, rfl, by simp [h]⟩, fun h => ⟨rfl, _, rfl, ?_⟩⟩
    rw [decide_eq_true_eq]; omega
  rintro us vs w1 ⟨rfl, t, rfl, ht⟩
  unfold S.bodkinlaw12_HistoryMost_J1
  rw [hd, sIf_bool]
  refine ⟨fun h => ?_, fun h => ?_⟩
  · rw [sBin_ptr_ne S.tpt_P_history_History, Option.isSome_some, sIf_true]
    exact then_again e1
  have hn : 0 ≤ n ∧ n ≤ 260 := by
    have : ¬ (n < 0 ∨ 260 < n) := fun h' => by rw [ht.2 h'] at h; cases h
    omega
  obtain ⟨n, rfl⟩ : ∃ k : Nat, n = k := ⟨n.toNat, by omega⟩
  generalize hbase : w1.heap.size = base at *
  refine LoopS.intro (fun us w2 => Frm S.T.history_Step base w.heap.size w1 w2 ∧ base ≤ w2.heap.size ∧ ∃ i : Nat, us = [.int .i64 i] ∧ i ≤ n ∧ Hist w2 base w.heap.size (left i i) [])
    (fun us _ => match us with | [.int _ a] => (n - a).toNat | _ => 0) ⟨.of_ext (Ext.refl _), by omega, 0, rfl, Nat.zero_le _, H1⟩ ?_
  rintro us vs w2 ⟨F2, hb2, i, rfl, hi, H2⟩
  unfold S.bodkinlaw12_HistoryMost_L2
  rw [hd, sBin_lss, sIf_dec]
  refine ⟨fun hlt => ?_, fun hge => ?_⟩
  · refine lit1 (fun _ => bE2 i i) fun v w3 r3 e3 hs3 => ?_
    rw [bS1]
    have q3 : Row w3 base S.T.api_Edit 3 (sv v) encE [ed i i] := r3.mono hb2
    refine (push_spec (H2.ext e3) (by omega) (by rw [left_len]; omega) (fun w' F => (F.own q3 (by decide) hb).sl encE_ok) (fv := (none, 0, 0)) (fs := []) (fun w' F => Sl.nil w' 3 encE) (by simp) (by simp)).mono ?_
    rintro u w4 ⟨rfl, F4, H4⟩
    have hs4 := F4.size
    rw [sBin_add _ _ ⟨by omega, by omega⟩]
    refine ⟨⟨(F2.trans (.of_ext e3)).trans F4, by omega, i + 1, by simp, by omega, ?_⟩, by simp only []; omega⟩
    rw [← cut_left]
    exact H4
  · have hin : i = n := by omega
    subst hin
    refine JoinS.intro (fun us w' => w' = w2 ∧ us = [.int .i64 ((i - (i - 100) : Nat) : Int)]) ?_ ?_
    · rw [sBin_gtr, sIf_dec]
      exact ⟨fun h => ⟨rfl, by congr 2; omega⟩, fun h => ⟨rfl, by congr 2; omega⟩⟩
    rintro us vs w3 ⟨rfl, rfl⟩
    unfold S.bodkinlaw12_HistoryMost_J3
    exact most_undo (by omega) (Nat.le_refl _) ⟨w1, e1, F2⟩ hb2 (by omega) H2 rfl
end Go.Proofs.Ytphpegpbkapieaa
