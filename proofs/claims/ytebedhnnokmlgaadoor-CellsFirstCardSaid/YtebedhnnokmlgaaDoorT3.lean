/- What 'Place' of the stops gives, and what the document's own sizes and cells are. Conditions: a table that answers; at most a million runes. -/
import Derived.Test.YtebedhnnokmlgaaDoorT2
namespace Go.Proofs.YtebedhnnokmlgaaDoor
open Go Go.Lift Go.RowKit

/-- The last place, of the first i, whose cell is not behind a. -/
def lst (f : Int → Int) (tab : Int) (ls : List Int) (a : Int) : Nat → Nat
  | 0 => 0
  | i + 1 => if pos f tab ls i ≤ a then i else lst f tab ls a i
theorem one_int (x : Int) : ∀ u ∈ [Value.int .i64 x], u.oneCell' = true := by intro u hu; simp at hu; subst hu; rfl

theorem place_spec {w : World} {p l : Value} {f : Int → Int} {tab a : Int} {ls : List Int} (ho : OfE p f w) (hf : ∀ r, 0 ≤ f r ∧ f r ≤ 2) (hl : Sl w l 1 (encI .i32) ls) (hn : ls.length ≤ 1000000) (ha : I64 a) :
    sCall Tryd.prog S.stops_Place.n [p, l, .agg (encQ tab a).toArray] w fun u w' => Ext w w' ∧ ∃ c m e, u = .tuple #[.int .i64 c, .int .i64 m, .int .i64 e] ∧ ((¬ (Right tab ∧ 0 ≤ a ∧ a ≤ pos f tab ls ls.length) ∧ c = 0 ∧ m = 0 ∧ e = 1) ∨
      (Right tab ∧ 0 ≤ a ∧ a ≤ pos f tab ls ls.length ∧ c = lst f tab ls a (ls.length + 1) ∧ m = a - pos f tab ls (lst f tab ls a (ls.length + 1)) ∧ e = 0)) := by
  refine S.stops_Place.call ?_
  unfold S.stops_Place
  refine sBox_new (cs := encQ tab a) rfl fun bq w1 hbq hs1 he1 hk1 => ?_
  refine JoinS.intro (fun us w' => w' = w1 ∧ ∃ t : Bool, us = [.bool t] ∧ (t = true ↔ ¬ (Right tab ∧ 0 ≤ a))) ?_ ?_
  · rw [sFldA_ptr S.tfl_stops_Ask_Tab, sLoad_cell S.tcell_int (hk1.cells.at 0 rfl)]
    refine (right_spec tab).mono ?_
    rintro u w' ⟨rfl, t, rfl, ht⟩
    rw [sUn_not, sIf_bool]
    refine ⟨fun h => ⟨rfl, true, rfl, ?_⟩, fun h => ?_⟩
    · simp only [true_iff]; rintro ⟨hr, _⟩; rw [ht.2 hr] at h; cases h
    have hr : Right tab := ht.1 (by simpa using h)
    rw [sFldA_ptr S.tfl_stops_Ask_At, sLoad_cell S.tcell_int (hk1.cells.at 1 rfl), sBin_lss]
    refine ⟨rfl, _, rfl, ?_⟩
    rw [decide_eq_true_eq]
    constructor
    · intro h1 h2; omega
    · intro h1; have : ¬ 0 ≤ a := fun h2 => h1 ⟨hr, h2⟩; omega
  rintro us vs w1 ⟨rfl, t, rfl, ht⟩
  unfold S.stops_Place_J1
  rw [hd, sIf_bool]
  refine ⟨fun h => ⟨he1, 0, 0, 1, rfl, .inl ⟨fun h' => ht.1 h ⟨h'.1, h'.2.1⟩, rfl, rfl, rfl⟩⟩, fun h => ?_⟩
  have hra : Right tab ∧ 0 ≤ a := Classical.byContradiction fun h' => by rw [ht.2 h'] at h; cases h
  obtain ⟨hr, ha0⟩ := hra
  have hk : Okt f tab := ⟨hf, hr⟩
  refine sAlloc_new S.tze_int fun bp w2 hbp hs2 he2 hkp => ?_
  refine sAlloc_new S.tze_int fun bm w3 hbm hs3 he3 hkm => ?_
  refine sAlloc_new S.tze_int fun be w4 hbe hs4 he4 hke => ?_
  refine sStore_blk (vs := [.int .i64 0]) S.tsz_int (by decide) ((hkp.ext he3).ext he4) rfl rfl (by simp) (one_int 0) fun w5 hs5 hg5 kp5 => ?_
  refine sStore_blk (vs := [.int .i64 0]) S.tsz_int (by decide) ((hkm.ext he4).wr hg5 (by intro e; cases e; omega)) rfl rfl (by simp) (one_int 0) fun w6 hs6 hg6 km6 => ?_
  refine sStore_blk (vs := [.int .i64 0]) S.tsz_int (by decide) ((hke.wr hg5 (by intro e; cases e; omega)).wr hg6 (by intro e; cases e; omega)) rfl rfl (by simp) (one_int 0) fun w7 hs7 hg7 ke7 => ?_
  have ke7 : Blk w7 be [.int .i64 0] := ke7
  have km7 : Blk w7 bm [.int .i64 0] := Blk.wr (cs := [.int .i64 0]) km6 hg7 (by intro e; cases e; omega)
  have kp7 : Blk w7 bp [.int .i64 0] := (Blk.wr (cs := [.int .i64 0]) kp5 hg6 (by intro e; cases e; omega)).wr hg7 (by intro e; cases e; omega)
  have hws := he1.size
  have E4 : Ext w w4 := ((he1.trans he2).trans he3).trans he4
  have E7 : Ext w w7 := ((E4.wr hg5 (fun g hg => by cases hg; omega)).wr hg6 (fun g hg => by cases hg; omega)).wr hg7 (fun g hg => by cases hg; omega)
  have kq7 : Blk w7 bq (encQ tab a) := ((((((hk1.ext he2).ext he3).ext he4).wr hg5 (by intro e; cases e; omega)).wr hg6 (by intro e; cases e; omega)).wr hg7 (by intro e; cases e; omega))
  rw [sFldA_ptr S.tfl_stops_Ask_Tab, sLoad_cell S.tcell_int (kq7.cells.at 0 rfl), sFunc_mk]
  -- what the closure does
  have clo : ∀ (i : Nat) (n : Int) (w8 : World) (m : Int), 0 ≤ n ∧ n ≤ 16 → i ≤ ls.length → Ext w w8 → Blk w8 bq (encQ tab a) → Blk w8 bp [.int .i64 (lst f tab ls a i)] → Blk w8 bm [.int .i64 m] → (∃ e, Blk w8 be [.int .i64 e]) → (0 < i → m = a - pos f tab ls (lst f tab ls a i)) →
      sCall Tryd.prog 39 [.int .i64 i, .int .i64 (pos f tab ls i), .int .i64 n, .pointer (some ⟨bq, 0, none⟩), .pointer (some ⟨bp, 0, none⟩), .pointer (some ⟨bm, 0, none⟩), .pointer (some ⟨be, 0, none⟩)] w8
        fun u w' => u = .bool true ∧ Ext w w' ∧ Blk w' bq (encQ tab a) ∧ Blk w' bp [.int .i64 (lst f tab ls a (i + 1))] ∧ Blk w' bm [.int .i64 (a - pos f tab ls (lst f tab ls a (i + 1)))] ∧ Blk w' be [.int .i64 (pos f tab ls i + n)] := by
    intro i n w8 m hnn hi e8 kq kp km ⟨e, ke⟩ hm
    have hb := pos_bd (ls := ls) hk i
    refine S.stops_Place_1.call ?_
    unfold S.stops_Place_1
    refine JoinS.intro (fun us w' => us = [] ∧ Ext w w' ∧ Blk w' bq (encQ tab a) ∧ Blk w' bp [.int .i64 (lst f tab ls a (i + 1))] ∧ Blk w' bm [.int .i64 (a - pos f tab ls (lst f tab ls a (i + 1)))] ∧ Blk w' be [.int .i64 e]) ?_ ?_
    · rw [sFldA_ptr S.tfl_stops_Ask_At, sLoad_cell S.tcell_int (kq.cells.at 1 rfl), sBin_leq, sIf_dec]
      refine ⟨fun hle => ?_, fun hgt => ⟨rfl, e8, kq, ?_, ?_, ke⟩⟩
      · have hl1 : lst f tab ls a (i + 1) = i := by simp [lst, hle]
        refine DrawS.intro (fun w' => w8.grownBy w' (some bp)) (grown_drew _ _) ?_
        have C0 := grown_drew w8 (some bp)
        rw [stillC_eq (fun w1 h1 K => sFldA_ptr S.tfl_stops_Ask_At) C0, stillC_eq (fun w1 (h1 : w8.grownBy w1 _) K => sLoad_cell S.tcell_int ((kq.wr h1 (by intro e; cases e; omega)).cells.at 1 rfl)) C0, stillC_eq (fun w1 h1 K => sBin_sub _ _ ⟨by omega, by omega⟩) C0]
        have D : Ext w8 w8.drew := (Ext.refl w8).drew
        refine sStore_blk (vs := [.int .i64 i]) S.tsz_int (by decide) (kp.ext D) rfl rfl (by simp) (one_int _) fun w9 hs9 hg9 kp9 => ?_
        have kp9 : Blk w9 bp [.int .i64 i] := kp9
        refine ⟨grown_trans C0 hg9, ?_⟩
        refine sStore_blk (vs := [.int .i64 (a - pos f tab ls i)]) S.tsz_int (by decide) ((km.ext D).wr hg9 (by intro e; cases e; omega)) rfl rfl (by simp) (one_int _) fun w10 hs10 hg10 km10 => ?_
        have km10 : Blk w10 bm [.int .i64 (a - pos f tab ls i)] := km10
        rw [hl1]
        exact ⟨rfl, ((e8.trans D).wr hg9 (fun g hg => by cases hg; omega)).wr hg10 (fun g hg => by cases hg; omega), (((kq.ext D).wr hg9 (by intro e; cases e; omega)).wr hg10 (by intro e; cases e; omega)), kp9.wr hg10 (by intro e; cases e; omega), km10, (((ke.ext D).wr hg9 (by intro e; cases e; omega)).wr hg10 (by intro e; cases e; omega))⟩
      · have hl1 : lst f tab ls a (i + 1) = lst f tab ls a i := by simp [lst, hgt]
        rw [hl1]; exact kp
      · have hl1 : lst f tab ls a (i + 1) = lst f tab ls a i := by simp [lst, hgt]
        have hi0 : 0 < i := by
          rcases Nat.eq_zero_or_pos i with rfl | h
          · simp [pos] at hgt; omega
          · exact h
        rw [hl1, ← hm hi0]; exact km
    rintro us vs w9 ⟨rfl, e9, kq9, kp9, km9, ke9⟩
    unfold S.stops_Place_1_J1
    rw [sBin_add _ _ ⟨by omega, by omega⟩]
    refine sStore_blk (vs := [.int .i64 (pos f tab ls i + n)]) S.tsz_int (by decide) ke9 rfl rfl (by simp) (one_int _) fun w10 hs10 hg10 ke10 => ?_
    have ke10 : Blk w10 be [.int .i64 (pos f tab ls i + n)] := ke10
    exact ⟨rfl, e9.wr hg10 (fun g hg => by cases hg; omega), kq9.wr hg10 (by intro e; cases e; omega), kp9.wr hg10 (by intro e; cases e; omega), km9.wr hg10 (by intro e; cases e; omega), ke10⟩
  refine (each_spec (w0 := w) ho hk hl hn (fun i w' => Ext w w' ∧ Blk w' bq (encQ tab a) ∧ Blk w' bp [.int .i64 (lst f tab ls a i)] ∧ (∃ m, Blk w' bm [.int .i64 m] ∧ (0 < i → m = a - pos f tab ls (lst f tab ls a i))) ∧ ∃ e, Blk w' be [.int .i64 e])
    (fun w' => Ext w w' ∧ Blk w' bq (encQ tab a) ∧ Blk w' bp [.int .i64 (lst f tab ls a (ls.length + 1))] ∧ Blk w' bm [.int .i64 (a - pos f tab ls (lst f tab ls a (ls.length + 1)))] ∧ Blk w' be [.int .i64 (pos f tab ls ls.length)]) (fun i w' h => h.1) ?_ ?_ ⟨E7, kq7, kp7, ⟨0, km7, fun h => by omega⟩, 0, ke7⟩).mono ?_
  · rintro i r w8 hx ⟨e8, kq, kp, ⟨m, km, hm⟩, hke⟩
    have hi : i < ls.length := (List.getElem?_eq_some_iff.1 hx).1
    rw [sDyn_func]
    refine (clo i _ w8 m (siz_bd hk) (by omega) e8 kq kp km hke hm).mono ?_
    rintro u w9 ⟨rfl, e9, kq9, kp9, km9, ke9⟩
    exact ⟨true, rfl, fun _ => ⟨e9, kq9, kp9, ⟨_, km9, fun _ => rfl⟩, _, ke9⟩, fun h => by cases h⟩
  · rintro w8 ⟨e8, kq, kp, ⟨m, km, hm⟩, hke⟩
    rw [sDyn_func]
    refine (clo ls.length 0 w8 m (by omega) (Nat.le_refl _) e8 kq kp km hke hm).mono ?_
    rintro u w9 ⟨rfl, e9, kq9, kp9, km9, ke9⟩
    rw [Int.add_zero] at ke9
    exact ⟨e9, kq9, kp9, km9, ke9⟩
  · rintro u w8 ⟨e8, kq, kp, km, ke⟩
    rw [sFldA_ptr S.tfl_stops_Ask_At, sLoad_cell S.tcell_int (kq.cells.at 1 rfl), sLoad_cell S.tcell_int (ke.cells.fst rfl), sBin_gtr, sIf_dec]
    refine ⟨fun h => ⟨e8, 0, 0, 1, rfl, .inl ⟨by omega, rfl, rfl, rfl⟩⟩, fun h => ?_⟩
    refine DrawS.ext ?_
    have E : Ext w8 w8.drew := (Ext.refl w8).drew
    rw [stillS_cell S.tcell_int (kp.cells.fst rfl) E, stillS_cell S.tcell_int (km.cells.fst rfl) E]
    exact ⟨e8.trans E, _, _, 0, rfl, .inr ⟨hr, ha0, by omega, rfl, rfl, rfl⟩⟩
end Go.Proofs.YtebedhnnokmlgaaDoor
