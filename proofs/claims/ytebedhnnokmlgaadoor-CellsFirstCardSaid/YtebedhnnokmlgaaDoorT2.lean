/- What 'Sizes', 'Cell' and 'Place' of the stops give. Conditions: a table that answers; at most a million runes. -/
import Derived.Test.YtebedhnnokmlgaaDoorT1
namespace Go.Proofs.YtebedhnnokmlgaaDoor
open Go Go.Lift Go.RowKit

abbrev Right (tab : Int) : Prop := 1 ≤ tab ∧ tab ≤ 16
theorem row_ne {w : World} {base e k b : Nat} {v : Value} {α : Type} {enc : α → List Value} {xs : List α} (h : Row w base e k v enc xs) (hb : b < base) : v.ownBlock = none ∨ v.ownBlock ≠ some b := by
  cases hv : v.ownBlock with
  | none => exact .inl rfl
  | some g => exact .inr (by intro e; cases e; have := h.lt b hv; omega)
/-- One int more. -/
theorem pushI {w : World} {K : K1} {base : Nat} {v : Value} {xs : List Int} {x : Int} (hr : Row w base S.T.int 1 v (encI .i64) xs) (hb : base ≤ w.heap.size) (hn : xs.length ≤ 2000000)
    (h : ∀ v' w', Row w' base S.T.int 1 v' (encI .i64) (xs ++ [x]) → w.grownBy w' v.ownBlock → K v' w') :
    sBuildSlice Tryd.prog 24 1 [(0, .int .i64 x)] w fun t w => sBuiltin Tryd.prog .append [24, 24] 24 [v, t] w K := by
  refine sBuildSlice_own (enc := encI .i64) (xs := [x]) (lp := [(0, [.int .i64 x])]) S.tel_L_int S.tsz_int rfl S.tze_int (by decide) (by decide) (encI_ok _) rfl rfl fun t w1 ht ho1 he1 hs1 => ?_
  refine sAppend_row S.tel_L_int S.tsz_int (by decide) S.tze_int rfl (encI_ok _) (hr.ext he1) (by omega) (ho1.sl (encI_ok _)) (by have : maxLen = 9223372036854775807 := rfl; simp; omega) (by rw [S.tby_int]; simp; omega) fun v' w2 hr2 hg2 _ => ?_
  exact h v' w2 hr2 (grown_trans (grown_of_ext he1 _) hg2)

theorem sizes_spec {w : World} {p l : Value} {f : Int → Int} {tab : Int} {ls : List Int} (ho : OfE p f w) (hf : ∀ r, 0 ≤ f r ∧ f r ≤ 2) (hl : Sl w l 1 (encI .i32) ls) (hn : ls.length ≤ 1000000) :
    sCall Tryd.prog S.stops_Sizes.n [p, l, .int .i64 tab] w fun u w' => Ext w w' ∧ ((¬ Right tab ∧ u = .tuple #[.slice none 0 0, .int .i64 1]) ∨
      (Right tab ∧ ∃ v, u = .tuple #[v, .int .i64 0] ∧ Row w' w.heap.size S.T.int 1 v (encI .i64) (szs f tab ls ls.length))) := by
  refine S.stops_Sizes.call ?_
  unfold S.stops_Sizes
  refine sBox_new (cs := [l]) hl.shape.1 fun bl w1 hbl hs1 he1 hk1 => ?_
  refine (right_spec tab).mono ?_
  rintro u w' ⟨rfl, t, rfl, ht⟩
  rw [sUn_not, sIf_bool]
  refine ⟨fun h => ⟨he1, .inl ⟨fun hr => (by rw [ht.2 hr] at h; cases h), rfl⟩⟩, fun h => ?_⟩
  have hr : Right tab := ht.1 (by simpa using h)
  have hk : Okt f tab := ⟨hf, hr⟩
  refine sAlloc_new S.tze_L_int fun bo w2 hbo hs2 he2 hk2 => ?_
  have E2 := he1.trans he2
  have k2 := hk1.ext he2
  rw [sLoad_cell S.tcell_L_int32 (k2.cells.fst rfl), sFunc_mk]
  refine (each_spec (w0 := w) ho hk hl hn (fun i w' => Ext w w' ∧ Blk w' bl [l] ∧ bo < w'.heap.size ∧ ∃ v, Blk w' bo [v] ∧ Row w' (bo + 1) S.T.int 1 v (encI .i64) (szs f tab ls i))
    (fun w' => Ext w w' ∧ ∃ v, Blk w' bo [v] ∧ Row w' (bo + 1) S.T.int 1 v (encI .i64) (szs f tab ls ls.length)) (fun i w' h => h.1) ?_ ?_ ⟨E2, k2, by omega, _, hk2, Row.nil _ _ _ _ _⟩).mono ?_
  · rintro i r w3 hx ⟨e3, kl, hbs, v, kv, hv⟩
    have hi : i < ls.length := (List.getElem?_eq_some_iff.1 hx).1
    rw [sDyn_func]
    refine S.stops_Sizes_1.call ?_
    unfold S.stops_Sizes_1
    rw [sLoad_cell S.tcell_L_int32 (kl.cells.fst rfl), sLen_sl S.tel_L_int32 (hl.ext e3), sBin_lss, sIf_pos (by omega), sLoad_cell S.tcell_L_int (kv.cells.fst rfl)]
    refine pushI hv (by omega) (by rw [szs_len]; omega) fun v' w4 hv4 hg4 => ?_
    have hvl : ∀ g, v.ownBlock = some g → bo + 1 ≤ g ∧ g < w3.heap.size := fun g hg => hv.lt g hg
    have e4 : Ext w w4 := e3.wr hg4 fun g hg => by have := hvl g hg; have := he1.size; omega
    have kl4 := kl.wr hg4 (fun e => by have := hvl bl e.symm; omega)
    have kv4 := kv.wr hg4 (fun e => by have := hvl bo e.symm; omega)
    refine sStore_blk S.tsz_L_int (by decide) kv4 hv4.shape.1 rfl (by simp) (by simpa using hv4.shape.2) fun w5 hs5 hg5 hk5 => ?_
    have hk5 : Blk w5 bo [v'] := hk5
    refine ⟨true, rfl, fun _ => ⟨e4.wr hg5 (fun g hg => by cases hg; omega), kl4.wr hg5 (by intro e; cases e; omega), by have := hg4.size; omega, v', hk5, ?_⟩, fun h => by cases h⟩
    rw [szs_succ hx]
    exact hv4.wr hg5 (row_ne hv4 (by omega))
  · rintro w3 ⟨e3, kl, hbs, v, kv, hv⟩
    rw [sDyn_func]
    refine S.stops_Sizes_1.call ?_
    unfold S.stops_Sizes_1
    rw [sLoad_cell S.tcell_L_int32 (kl.cells.fst rfl), sLen_sl S.tel_L_int32 (hl.ext e3), sBin_lss, sIf_neg (by omega)]
    exact ⟨e3, v, kv, hv⟩
  · rintro u w3 ⟨e3, v, kv, hv⟩
    rw [sLoad_cell S.tcell_L_int (kv.cells.fst rfl)]
    exact ⟨e3, .inr ⟨hr, v, rfl, hv.mono (by omega)⟩⟩

/-- A question: a tab's size and a place. -/
def encQ (t a : Int) : List Value := [.int .i64 t, .int .i64 a]
theorem cell_spec {w : World} {p l : Value} {f : Int → Int} {tab a : Int} {ls : List Int} (ho : OfE p f w) (hf : ∀ r, 0 ≤ f r ∧ f r ≤ 2) (hl : Sl w l 1 (encI .i32) ls) (hn : ls.length ≤ 1000000) :
    sCall Tryd.prog S.stops_Cell.n [p, l, .agg (encQ tab a).toArray] w fun u w' => Ext w w' ∧ ∃ c e, u = .tuple #[.int .i64 c, .int .i64 e] ∧ ((¬ (Right tab ∧ 0 ≤ a ∧ a ≤ ls.length) ∧ c = 0 ∧ e = 1) ∨ (Right tab ∧ 0 ≤ a ∧ a ≤ ls.length ∧ c = pos f tab ls a.toNat ∧ e = 0)) := by
  refine S.stops_Cell.call ?_
  unfold S.stops_Cell
  refine sBox_new (cs := encQ tab a) rfl fun bq w1 hbq hs1 he1 hk1 => ?_
  rw [sFldA_ptr S.tfl_stops_Ask_Tab, sLoad_cell S.tcell_int (hk1.cells.at 0 rfl)]
  refine (right_spec tab).mono ?_
  rintro u w' ⟨rfl, t, rfl, ht⟩
  rw [sUn_not, sIf_bool]
  refine ⟨fun h => ⟨he1, 0, 1, rfl, .inl ⟨fun hr => (by rw [ht.2 hr.1] at h; cases h), rfl, rfl⟩⟩, fun h => ?_⟩
  have hr : Right tab := ht.1 (by simpa using h)
  have hk : Okt f tab := ⟨hf, hr⟩
  rw [sFldA_ptr S.tfl_stops_Ask_At, sLoad_cell S.tcell_int (hk1.cells.at 1 rfl), sBin_lss, sIf_dec]
  refine ⟨fun h0 => ⟨he1, 0, 1, rfl, .inl ⟨by omega, rfl, rfl⟩⟩, fun h0 => ?_⟩
  rw [sFldA_ptr S.tfl_stops_Ask_At, sLoad_cell S.tcell_int (hk1.cells.at 1 rfl), sLen_sl S.tel_L_int32 (hl.ext he1), sBin_gtr, sIf_dec]
  refine ⟨fun h1 => ⟨he1, 0, 1, rfl, .inl ⟨by omega, rfl, rfl⟩⟩, fun h1 => ?_⟩
  obtain ⟨a, rfl⟩ : ∃ k : Nat, a = k := ⟨a.toNat, by omega⟩
  refine sVar S.tze_int S.tsz_int (by decide) (vs := [.int .i64 0]) rfl rfl (by intro u hu; simp at hu; subst hu; rfl) fun bc w2 hbc hs2 he2 hk2 => ?_
  have k2 := hk1.ext he2
  have E2 := he1.trans he2
  rw [sFldA_ptr S.tfl_stops_Ask_Tab, sLoad_cell S.tcell_int (k2.cells.at 0 rfl), sFunc_mk]
  have clo : ∀ (i : Nat) (n : Int) (w3 : World) (x : Int), Ext w w3 → Blk w3 bq (encQ tab a) → Blk w3 bc [.int .i64 x] →
      sCall Tryd.prog 38 [.int .i64 i, .int .i64 (pos f tab ls i), .int .i64 n, .pointer (some ⟨bc, 0, none⟩), .pointer (some ⟨bq, 0, none⟩)] w3 fun u w' => u = .bool (decide (i < a)) ∧ Ext w w' ∧ Blk w' bq (encQ tab a) ∧ Blk w' bc [.int .i64 (pos f tab ls i)] := by
    intro i n w3 x e3 kq kc
    refine S.stops_Cell_1.call ?_
    unfold S.stops_Cell_1
    refine sStore_blk (vs := [.int .i64 (pos f tab ls i)]) S.tsz_int (by decide) kc rfl rfl (by simp) (by intro u hu; simp at hu; subst hu; rfl) fun w4 hs4 hg4 hk4 => ?_
    have hk4 : Blk w4 bc [.int .i64 (pos f tab ls i)] := hk4
    have kq4 := kq.wr hg4 (by intro e; cases e; omega)
    rw [sFldA_ptr S.tfl_stops_Ask_At, sLoad_cell S.tcell_int (kq4.cells.at 1 rfl), sBin_lss]
    refine ⟨by congr 2; simp, e3.wr hg4 (fun g hg => by cases hg; have := he1.size; omega), kq4, hk4⟩
  refine (each_spec (w0 := w) ho hk hl hn (fun i w' => Ext w w' ∧ i ≤ a ∧ Blk w' bq (encQ tab a) ∧ ∃ x, Blk w' bc [.int .i64 x])
    (fun w' => Ext w w' ∧ Blk w' bc [.int .i64 (pos f tab ls a)]) (fun i w' h => h.1) ?_ ?_ ⟨E2, Nat.zero_le _, k2, 0, hk2⟩).mono ?_
  · rintro i r w3 hx ⟨e3, hia, kq, x, kc⟩
    rw [sDyn_func]
    refine (clo i _ w3 x e3 kq kc).mono ?_
    rintro u w4 ⟨rfl, e4, kq4, kc4⟩
    refine ⟨_, rfl, fun h => ?_, fun h => ?_⟩
    · have := of_decide_eq_true h
      exact ⟨e4, by omega, kq4, _, kc4⟩
    · have := of_decide_eq_false h
      have : i = a := by omega
      subst this
      exact ⟨e4, kc4⟩
  · rintro w3 ⟨e3, hia, kq, x, kc⟩
    rw [sDyn_func]
    have : ls.length = a := by omega
    refine (clo ls.length _ w3 x e3 kq kc).mono ?_
    rintro u w4 ⟨rfl, e4, kq4, kc4⟩
    rw [this] at kc4
    exact ⟨e4, kc4⟩
  · rintro u w3 ⟨e3, kc⟩
    rw [sLoad_cell S.tcell_int (kc.cells.fst rfl)]
    exact ⟨e3, _, 0, rfl, .inr ⟨hr, by omega, by omega, rfl, rfl⟩⟩
end Go.Proofs.YtebedhnnokmlgaaDoor
