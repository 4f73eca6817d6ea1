/- Blocks whose cells are all slices or strings; what other worlds than such a block's keep: ropes. Appending to rows of slices. No conditions beyond the state. -/
import Derived.Test.YtpjmmhbdondknaaDoorJ4
namespace Go.Lift
open Go Go.RowKit
def isS : Value → Bool
  | .slice _ _ _ => true
  | .string _ => true
  | _ => false
/-- A block with slices and strings alone. -/
def AllS (w : World) (g : Nat) : Prop := ∃ c T, w.heap[g]? = some (.cells c T (0, 0)) ∧ ∀ u ∈ c.toList, isS u = true
def OwnS (w : World) (v : Value) : Prop := ∀ g, v.ownBlock = some g → AllS w g
/-- Only blocks with slices and strings alone have changed. -/
def Kp (w w' : World) : Prop := w.heap.size ≤ w'.heap.size ∧ ∀ k, k < w.heap.size → w'.heap[k]? = w.heap[k]? ∨ AllS w k
section
variable {w w1 w' : World}
theorem AllS.congr {g : Nat} (h : AllS w g) (e : w'.heap[g]? = w.heap[g]?) : AllS w' g := by
  obtain ⟨c, T, h1, h2⟩ := h
  exact ⟨c, T, e.trans h1, h2⟩
theorem AllS.lt {g : Nat} (h : AllS w g) : g < w.heap.size := by
  obtain ⟨c, T, h1, _⟩ := h
  exact (Array.getElem?_eq_some_iff.1 h1).1
theorem AllS.ext {g : Nat} (h : AllS w g) (e : Ext w w') : AllS w' g := h.congr (e.block g h.lt)
theorem AllS.wr {g : Nat} {row : Option Nat} (h : AllS w g) (e : w.grownBy w' row) (hg : some g ≠ row) : AllS w' g := h.congr (e.block g h.lt hg)
theorem OwnS.ext {v : Value} (h : OwnS w v) (e : Ext w w') : OwnS w' v := fun g hg => (h g hg).ext e
theorem OwnS.wr {v : Value} {row : Option Nat} (h : OwnS w v) (e : w.grownBy w' row) (hg : v.ownBlock = none ∨ v.ownBlock ≠ row) : OwnS w' v := fun g hv => (h g hv).wr e (by rcases hg with k | k; (· rw [hv] at k; cases k); rw [← hv]; exact k)
theorem OwnS.nil : OwnS w (.slice none 0 0) := fun g hg => by cases hg

theorem Blk.isS {b : Nat} {cs : List Value} (h : Blk w b cs) (hs : ∀ u ∈ cs, isS u = true) : AllS w b := by
  obtain ⟨T, h⟩ := h
  exact ⟨_, _, h, by simpa using hs⟩
theorem Kp.refl (w : World) : Kp w w := ⟨Nat.le_refl _, fun _ _ => .inl rfl⟩
theorem Kp.trans (h : Kp w w1) (k : Kp w1 w') : Kp w w' := by
  refine ⟨Nat.le_trans h.1 k.1, fun g hg => ?_⟩
  rcases h.2 g hg with h1 | h1
  · rcases k.2 g (Nat.lt_of_lt_of_le hg h.1) with h2 | h2
    · exact .inl (h2.trans h1)
    · exact .inr (h2.congr h1.symm)
  · exact .inr h1
theorem Kp.of_ext (e : Ext w w') : Kp w w' := ⟨e.size, fun g hg => .inl (e.block g hg)⟩
theorem Kp.of_grown {row : Option Nat} (e : w.grownBy w' row) (h : ∀ g, row = some g → g < w.heap.size → AllS w g) : Kp w w' := ⟨e.size, fun g hg => by
  by_cases hr : row = some g
  · exact .inr (h g hr hg)
  · exact .inl (e.block g hg fun k => hr k.symm)⟩
theorem Cells.keep {b o : Nat} {cs : List Value} (h : Cells w b o cs) (hk : Kp w w') (i : Nat) {u : Value} (hi : cs[i]? = some u) (hu : isS u = false) : Cells w' b o cs := by
  have hat := h.at i hi
  have hlt := cell_lt hat
  rcases hk.2 b hlt with he | ⟨c, T, h1, h2⟩
  · intro j v hj
    have := h j v hj
    unfold World.cell? at this ⊢
    rw [he]
    exact this
  · unfold World.cell? at hat
    simp only [h1] at hat
    have hm := h2 u (by simpa using Array.mem_of_getElem? (by simpa using hat))
    rw [hm] at hu
    cases hu
theorem Sl.keep {α : Type} {v : Value} {k : Nat} {enc : α → List Value} {xs : List α} (h : Sl w v k enc xs) (hk : Kp w w') (he : ∀ x : α, ∃ (i : Nat) (u : Value), (enc x)[i]? = some u ∧ isS u = false) : Sl w' v k enc xs := by
  obtain ⟨a, cap, rfl, h1, h2, h3⟩ := h
  refine ⟨a, cap, rfl, h1, h2, fun i x hx => ?_⟩
  obtain ⟨b, o, hb, hc⟩ := h3 i x hx
  obtain ⟨j, u, hj, hu⟩ := he x
  exact ⟨b, o, hb, hc.keep hk j hj hu⟩
end
theorem zeroCells_mem {z : Array Value} {n : Nat} {u : Value} (h : u ∈ (Builtin.zeroCells z n).toList) : u ∈ z.toList := by
  unfold Builtin.zeroCells at h
  simp only [Array.toList_map, Array.toList_range, List.mem_map, List.mem_range] at h
  obtain ⟨i, hi, rfl⟩ := h
  have h0 : 0 < z.size := by
    rcases Nat.eq_zero_or_pos z.size with h1 | h1
    · rw [h1] at hi; simp at hi
    · exact h1
  have hlt : i % z.size < z.size := Nat.mod_lt _ h0
  rw [getElem!_pos z _ hlt]
  simp
/-- Appending to a row of slices: its block holds slices alone. -/
theorem sAppend_rowS {P : Program} {T : TypeId} {w : World} {K : K1} {α : Type} {base e k : Nat} {v x : Value} {enc : α → List Value} {xs ys : List α} {ze : List Value} {ty : Nat} (hel : elQ P T = some e) (hk : szQ P e = k) (h0 : 0 < k) (hz : zeroQ P e = some ze) (hzl : ze.length = k) (he : Enc enc k)
    (hown : Row w base e k v enc xs) (hbase : base ≤ w.heap.size) (hx : Sl w x k enc ys) (hys : 0 < ys.length) (h63 : xs.length + ys.length ≤ maxLen) (hby : (xs.length + ys.length) * byQ P e ≤ 140737488355328)
    (hS : OwnS w v) (hze : ∀ u ∈ ze, isS u = true) (hen : ∀ y, ∀ u ∈ enc y, isS u = true)
    (h : ∀ v' w', Row w' base e k v' enc (xs ++ ys) → w.grownBy w' v.ownBlock → (v'.ownBlock = v.ownBlock ∨ ∀ g, v'.ownBlock = some g → w.heap.size ≤ g) → OwnS w' v' → K v' w') : sBuiltin P .append [T, T] ty [v, x] w K := by
  obtain ⟨i, z, hi, hzz, hzc, hsz, hbq⟩ := zero_info hz
  have hik : i.size = k := by rw [hsz, hk]
  have hzS : ∀ n, ∀ u ∈ (Builtin.zeroCells z.cells n).toList, isS u = true := fun n u hu => hze u (by rw [← hzc]; exact zeroCells_mem hu)
  have hfS : ∀ (l : List α), ∀ u ∈ l.flatMap enc, isS u = true := fun l u hu => by obtain ⟨y, _, hy⟩ := List.mem_flatMap.1 hu; exact hen y u hy
  obtain ⟨a, c, rfl, g1, g2, g3⟩ := hx
  have hlen : (xs ++ ys).length = xs.length + ys.length := by simp
  have happ : (xs ++ ys).flatMap enc = xs.flatMap enc ++ ys.flatMap enc := by simp
  have hxl := he.length xs
  have hyl := he.length ys
  have hzs : z.cells.size = k := by rw [← Array.length_toList, hzc, hzl]
  have hmx : maxLen = 9223372036854775807 := rfl
  cases a with
  | none =>
    obtain ⟨y, hy⟩ : ∃ y, ys[0]? = some y := ⟨_, List.getElem?_eq_getElem hys⟩
    obtain ⟨b, o, hb, _⟩ := g3 0 y hy
    cases hb
  | some ad =>
    have hnews : ∀ j u, (ys.flatMap enc)[j]? = some u → w.cell? (ad.add j) = some u := by
      intro j u hu
      have hj : j < ys.length * k := by
        have := (List.getElem?_eq_some_iff.1 hu).1
        rwa [he.length] at this
      have hq : j / k < ys.length := (Nat.div_lt_iff_lt_mul h0).2 hj
      obtain ⟨y, hy⟩ : ∃ y, ys[j / k]? = some y := ⟨ys[j / k], List.getElem?_eq_getElem hq⟩
      obtain ⟨b, o, hb, hc⟩ := g3 _ y hy
      cases hb
      have hmod : j % k < (enc y).length := by rw [he.len]; exact Nat.mod_lt _ h0
      obtain ⟨u', hu'⟩ : ∃ u', (enc y)[j % k]? = some u' := ⟨(enc y)[j % k], List.getElem?_eq_getElem hmod⟩
      have hget := he.get ys _ y hy _ u' hu'
      rw [show j / k * k + j % k = j from by rw [Nat.mul_comm]; exact Nat.div_add_mod j k] at hget
      rw [hu] at hget
      cases hget
      have := hc _ _ hu'
      rw [add_addr]
      rw [Nat.add_assoc, show j / k * k + j % k = j from by rw [Nat.mul_comm]; exact Nat.div_add_mod j k] at this
      exact this
    have hone : ∀ u ∈ ys.flatMap enc, u.oneCell' = true := fun u hu => by obtain ⟨y, _, hy⟩ := List.mem_flatMap.1 hu; exact he.one y u hy
    rcases id hown with ⟨rfl, rfl⟩ | ⟨g, o, cap, cur, rfl, hb, hg, hnc, hcm, hcs, ht⟩
    · have hb2 : ys.length * byQ P e ≤ 140737488355328 := by simpa using hby
      have hr := run_append_nil (P := P) w T ty e i z (elQ_spec hel) hi hzz ad ys.length c (ys.flatMap enc) (by rw [hik]; exact hyl) hnews hys (by simp at h63; omega) (by rw [hbq]; omega)
      have hge := grownCap_ge w ys.length 0 e
      have hcm' : grownCap w ys.length 0 e ≤ maxLen := grownCap_le_maxLen w _ 0 e (by simpa using h63)
      have := h (.slice (some ⟨w.heap.size, 0, none⟩) ys.length (grownCap w ys.length 0 e))
        (w.drew.alloc (.cells ((ys.flatMap enc).toArray ++ Builtin.zeroCells z.cells (grownCap w ys.length 0 e - ys.length)) e))
        (.inr ⟨w.heap.size, 0, _, _, by simp, hbase, heap_alloc_new w.drew _, by simp; omega, hcm', by
          simp only [Array.size_append, List.size_toArray, size_zeroCells, hzs, hyl, Nat.zero_add, ← Nat.add_mul]
          exact Nat.le_of_eq (by congr 1; omega), by
          rw [List.nil_append, List.drop_zero]
          simp only [Array.toList_append]
          rw [← hyl]
          exact List.take_left⟩)
        ⟨rfl, rfl, rfl, by simp, fun b hk _ => (Ext.new w.drew _).block b hk⟩ (.inr fun g hg => by cases hg; exact Nat.le_refl _)
        (fun g hg => by
          cases hg
          refine ⟨_, _, heap_alloc_new w.drew _, fun u hu => ?_⟩
          rw [Array.toList_append, List.mem_append] at hu
          rcases hu with hu | hu
          · exact hfS ys u hu
          · exact hzS _ u hu)
      unfold sBuiltin after
      dsimp only [List.length_nil]
      rw [hr]
      exact this
    have hxk : xs.length * k ≤ cap * k := Nat.mul_le_mul_right k hnc
    have hcur : ∀ u ∈ cur.toList, isS u = true := by
      obtain ⟨c', T', h1, h2⟩ := hS g rfl
      rw [hg] at h1
      cases h1
      exact h2
    by_cases hroom : xs.length + ys.length ≤ cap
    · have hrk : xs.length * k + ys.length * k ≤ cap * k := by rw [← Nat.add_mul]; exact Nat.mul_le_mul_right k hroom
      have hf := run_firstCells_some (P := P) w i.size ys.length ad ys.length c (ys.flatMap enc) (by rw [hik]; exact hyl) hnews
      have hst := run_storeCells_at P g (o + xs.length * k) e (ys.flatMap enc) 0 cur w hg (by omega) hone
      simp only [Nat.add_zero] at hst
      have hr : (Builtin.append_ #[T, T] ty #[.slice (some ⟨g, o, none⟩) xs.length cap, .slice (some ad) ys.length c]).run P w =
          .ok (.slice (some ⟨g, o, none⟩) (xs.length + ys.length) cap) (w.setRow g (cur.toList.take (o + xs.length * k) ++ ys.flatMap enc ++ cur.toList.drop (o + xs.length * k + (ys.flatMap enc).length)).toArray) := by
        simp only [hik] at hf
        simp only [List.append_assoc] at hst
        simp [Builtin.append_, run_underlying (elQ_spec hel), sizeOf, typeInfo, hi, hik, Builtin.lenOf, hroom, hf, add_addr, hst]
      have hcl : cur.toList.length = cur.size := by simp
      have hcont : ((cur.toList.take (o + xs.length * k) ++ ys.flatMap enc ++ cur.toList.drop (o + xs.length * k + (ys.flatMap enc).length)).drop o).take ((xs.length + ys.length) * k) = xs.flatMap enc ++ ys.flatMap enc := by
        rw [← ht]
        have e1 : (cur.toList.take (o + xs.length * k) ++ ys.flatMap enc ++ cur.toList.drop (o + xs.length * k + (ys.flatMap enc).length)).drop o = (cur.toList.drop o).take (xs.length * k) ++ (ys.flatMap enc ++ cur.toList.drop (o + xs.length * k + (ys.flatMap enc).length)) := by
          rw [List.append_assoc, List.drop_append_of_le_length (by rw [List.length_take, hcl]; omega), List.drop_take]
          congr 2
          omega
        have e2 : ((cur.toList.drop o).take (xs.length * k)).length = xs.length * k := by rw [List.length_take, List.length_drop, hcl]; omega
        rw [e1]
        generalize (cur.toList.drop o).take (xs.length * k) = A at e2 ⊢
        generalize cur.toList.drop (o + xs.length * k + (ys.flatMap enc).length) = B
        rw [List.take_append, e2, List.take_of_length_le (l := A) (by rw [e2, Nat.add_mul]; omega), List.take_append, hyl, Nat.add_mul, Nat.add_sub_cancel_left, Nat.sub_self, List.take_zero, List.append_nil, List.take_of_length_le (by rw [hyl]; omega)]
      have := h (.slice (some ⟨g, o, none⟩) (xs.length + ys.length) cap) (w.setRow g (cur.toList.take (o + xs.length * k) ++ ys.flatMap enc ++ cur.toList.drop (o + xs.length * k + (ys.flatMap enc).length)).toArray)
        (.inr ⟨g, o, cap, _, by rw [hlen], hb, setRow_heap w g cur _ e _ hg, by omega, hcm, by simp only [List.size_toArray, List.length_append, List.length_take, List.length_drop, hcl]; omega, by rw [happ, hlen]; exact hcont⟩)
        ⟨rfl, rfl, rfl, by simp, fun b _ hk => setRow_other w g b _ (fun e => hk (by simp [Value.ownBlock, e]))⟩ (.inl rfl)
        (fun g' hg' => by
          cases hg'
          refine ⟨_, _, setRow_heap w g cur _ e _ hg, fun u hu => ?_⟩
          simp only [List.mem_append] at hu
          rcases hu with (hu | hu) | hu
          · exact hcur u (List.mem_of_mem_take hu)
          · exact hfS ys u hu
          · exact hcur u (List.mem_of_mem_drop hu))
      unfold sBuiltin after
      dsimp only
      rw [hr]
      exact this
    · have holds : ∀ j u, (xs.flatMap enc)[j]? = some u → w.cell? ((⟨g, o, none⟩ : Addr).add j) = some u := fun j u hu => by rw [add_addr]; exact hown.at rfl hu
      have hr := run_append_grow (P := P) w T ty e i z (elQ_spec hel) hi hzz ⟨g, o, none⟩ xs.length cap (xs.flatMap enc) (by rw [hik]; exact hxl) holds ad ys.length c (ys.flatMap enc) (by rw [hik]; exact hyl) hnews (by omega) (by omega) (growslice_fits (by omega) (by rw [hbq]; exact hby))
      have hge := grownCap_ge w (xs.length + ys.length) cap e
      have hcm' : grownCap w (xs.length + ys.length) cap e ≤ maxLen := grownCap_le_maxLen w _ cap e h63
      have := h (.slice (some ⟨w.heap.size, 0, none⟩) (xs.length + ys.length) (grownCap w (xs.length + ys.length) cap e))
        (w.drew.alloc (.cells ((xs.flatMap enc).toArray ++ (ys.flatMap enc).toArray ++ Builtin.zeroCells z.cells (grownCap w (xs.length + ys.length) cap e - (xs.length + ys.length))) e))
        (.inr ⟨w.heap.size, 0, _, _, by rw [hlen], hbase, heap_alloc_new w.drew _, by omega, hcm', by
          simp only [Array.size_append, List.size_toArray, size_zeroCells, hzs, hxl, hyl, Nat.zero_add, ← Nat.add_mul]
          exact Nat.le_of_eq (by congr 1; omega), by
          rw [happ, hlen, List.drop_zero]
          simp only [Array.toList_append, List.append_assoc]
          rw [← List.append_assoc, ← happ, show (xs.length + ys.length) * k = ((xs ++ ys).flatMap enc).length from by rw [he.length, hlen]]
          exact List.take_left⟩)
        ⟨rfl, rfl, rfl, by simp, fun b hk _ => (Ext.new w.drew _).block b hk⟩ (.inr fun g hg => by cases hg; exact Nat.le_refl _)
        (fun g' hg' => by
          cases hg'
          refine ⟨_, _, heap_alloc_new w.drew _, fun u hu => ?_⟩
          rw [Array.toList_append, Array.toList_append, List.mem_append, List.mem_append] at hu
          rcases hu with (hu | hu) | hu
          · exact hfS xs u hu
          · exact hfS ys u hu
          · exact hzS _ u hu)
      unfold sBuiltin after
      dsimp only
      rw [hr]
      exact this
end Go.Lift
namespace Go.Proofs.YtpjmmhbdondknaaDoor
open Go Go.Lift Go.RowKit Go.Txt
theorem ndv_ns (k : Nv) : isS (ndv k) = false := by obtain ⟨t, b⟩ := k; cases t <;> rfl
theorem Nd.keep {w w' : World} (e : Kp w w') : ∀ {h : Nat} {k : Nv} {c : Nat} {xs : List It}, Nd w h k c xs → Nd w' h k c xs
  | 0, _, _, _, h => by
    obtain ⟨h1, h2, h3, h4, s, h5, h6⟩ := h
    exact ⟨h1, h2, h3, h4, s, h5.keep e 1 rfl rfl, h6.keep e fun x => ⟨0, _, rfl, rfl⟩⟩
  | n + 1, _, _, _, h => by
    obtain ⟨h1, h3, h4, s, ks, h5, h6, h7, h8, h9⟩ := h
    exact ⟨h1, h3, h4, s, ks, h5.keep e 1 rfl rfl, h6.keep e fun x => ⟨0, _, rfl, ndv_ns x⟩, h7, h8, fun t ht => ⟨(h9 t ht).1, Nd.keep e (h9 t ht).2⟩⟩
theorem Tp.keep {w w' : World} {v : Value} {xs : List It} (h : Tp w v xs) (e : Kp w w') : Tp w' v xs := by
  rcases h with h | ⟨b, r, h1, h2, h3⟩
  · exact .inl h
  · rcases h3 with ⟨rfl, h4⟩ | ⟨hh, k, c, rfl, hd⟩
    · exact .inr ⟨b, _, h1, h2.keep e 0 rfl rfl, .inl ⟨rfl, h4⟩⟩
    · exact .inr ⟨b, _, h1, h2.keep e 0 rfl (ndv_ns k), .inr ⟨hh, k, c, rfl, hd.keep e⟩⟩
theorem Tp.ns {w : World} {v : Value} {xs : List It} (h : Tp w v xs) : isS v = false := by
  rcases h with ⟨rfl, _⟩ | ⟨b, r, rfl, _⟩ <;> rfl
theorem Rp.keep {w w' : World} {v : Value} {ps : List (List Int)} (h : Rp w v ps) (e : Kp w w') : Rp w' v ps := by
  rcases h with h | ⟨b, t, h1, h2, h3⟩
  · exact .inl h
  · exact .inr ⟨b, t, h1, h2.keep e 0 rfl h3.ns, h3.keep e⟩
end Go.Proofs.YtpjmmhbdondknaaDoor
