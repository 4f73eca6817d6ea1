/- A builder of text, written and read; texts joined. Conditions: those of the kit's contracts. Ropes: pieces, sizes, new ones. Conditions: the table of sizes in memory; not too long. -/
import Derived.Test.YtpjmmhbdondknaaDoorSh
import Derived.Test.YtpjmmhbdondknaaDoorQ1
import Derived.Test.YtpjmmhbdondknaaDoorV1
namespace Go.Proofs.YtpjmmhbdondknaaDoor
open Go Go.Lift Go.RowKit Go.Txt

section
variable {P : Program} {w : World} {K : K1}
theorem sConv_toU {s d t E : TypeId} {a : Addr} {n : Nat} (hs : P.underlying s = some (.pointer t)) (hd : P.underlying d = some .unsafePointer) (ht : (P.info? t).map (fun j => decide (j.size = 0)) = some false) (hsh : w.shape? a.block = some (E, n)) (ho : a.off < n)
    (h : K (.pointer (some a)) w) : sConv P s d (.pointer (some a)) w K := by
  cases hj : P.info? t with
  | none => rw [hj] at ht; cases ht
  | some j =>
    rw [hj] at ht
    have hjs : j.size ≠ 0 := by simpa using ht
    unfold sConv after
    rw [Lib.run_to_unsafe w a hs hd hj hjs hsh ho]
    exact h
theorem sConv_fromU {s d t E : TypeId} {a : Addr} {n : Nat} (hs : P.underlying s = some .unsafePointer) (hd : P.underlying d = some (.pointer t)) (ht : (P.info? t).isSome = true) (hsh : w.shape? a.block = some (E, n)) (hl : liesAt P P.depth E (n / P.cellsOf E) a.off t 1 = true)
    (h : K (.pointer (some a)) w) : sConv P s d (.pointer (some a)) w K := by
  obtain ⟨j, hj⟩ := Option.isSome_iff_exists.1 ht
  unfold sConv after
  rw [Lib.run_from_unsafe w a hs hd hj hsh hl]
  exact h
theorem sBin_ptr_same {T t : TypeId} {a : Addr} (hs : P.underlying T = some (.pointer t)) (ht : (P.info? t).isSome = true) (h : K (.bool false) w) : sBin P .neq T false false (.pointer (some a)) (.pointer (some a)) w K := by
  obtain ⟨j, hj⟩ := Option.isSome_iff_exists.1 ht
  have hg : (eqGuard .neq T (.tmp 0) (.tmp 0) (.pointer (some a)) (.pointer (some a))).run P w = .ok () w := by simp [eqGuard]
  unfold sBin after
  rw [Sem.run_bind]
  simp only [cond_false]
  rw [hg, Result.andThen_ok, Lib.run_neq_ptr_same w a hs hj]
  exact h
end
abbrev TB : Nat := S.T.strings_Builder
abbrev U8 : Nat := S.T.uint8
/-- A builder that holds bytes; its rows and itself lie from a block on. -/
def Bd (w : World) (B b : Nat) (l : List UInt8) : Prop := Lib.IsBuilder TB U8 B b (Lib.byteCells l) w
theorem bytes_own {w : World} {B : Nat} {v : Value} {l : List UInt8} : w.ownsRow B U8 1 v (Lib.byteCells l).length (Lib.byteCells l) ↔ Own w B U8 1 v encB l := by
  have e : Lib.byteCells l = l.flatMap encB := by unfold Lib.byteCells; rw [List.map_eq_flatMap]
  have e2 : (Lib.byteCells l).length = l.length := Lib.byteCells_length l
  unfold Own
  rw [e2, e]
theorem Bd.wr {w w' : World} {B b c : Nat} {l : List UInt8} (h : Bd w B b l) (g : w.grownBy w' (some c)) (hc : c < B) : Bd w' B b l := by
  have go : ∀ p, Lib.BuilderAt TB U8 B b p (Lib.byteCells l) w → Lib.BuilderAt TB U8 B b p (Lib.byteCells l) w' := by
    rintro p ⟨hB, v, hb, ho, hne⟩
    have hbl : b < w.heap.size := (Array.getElem?_eq_some_iff.1 hb).1
    refine ⟨hB, v, (g.block b hbl (by intro e; cases e; omega)).trans hb, bytes_own.2 ((bytes_own.1 ho).wr g ?_), hne⟩
    cases hv : v.ownBlock with
    | none => exact .inl rfl
    | some q => exact .inr (by intro e; cases e; have := (bytes_own.1 ho).lt c hv; omega)
  exact h.elim (fun x => .inl (go _ x)) (fun x => .inr (go _ x))
theorem Bd.ext {w w' : World} {B b : Nat} {l : List UInt8} (h : Bd w B b l) (e : Ext w w') : Bd w' B b l := by
  have go : ∀ p, Lib.BuilderAt TB U8 B b p (Lib.byteCells l) w → Lib.BuilderAt TB U8 B b p (Lib.byteCells l) w' := by
    rintro p ⟨hB, v, hb, ho, hne⟩
    have hbl : b < w.heap.size := (Array.getElem?_eq_some_iff.1 hb).1
    exact ⟨hB, v, (e.block b hbl).trans hb, bytes_own.2 ((bytes_own.1 ho).ext e), hne⟩
  exact h.elim (fun x => .inl (go _ x)) (fun x => .inr (go _ x))
theorem Bd.lt {w : World} {B b : Nat} {l : List UInt8} (h : Bd w B b l) : B ≤ b ∧ b < w.heap.size := by
  rcases h with ⟨hB, v, hb, _⟩ | ⟨hB, v, hb, _⟩ <;> exact ⟨hB, (Array.getElem?_eq_some_iff.1 hb).1⟩
theorem copyCheck_spec {w : World} {B b : Nat} {l : List UInt8} (h : Bd w B b l) : sCall Tryd.prog S.strings_Builder_copyCheck.n [.pointer (some ⟨b, 0, none⟩)] w fun u w' => u = .tuple #[] ∧ Wr b w w' ∧ Lib.BuilderAt TB U8 B b (.pointer (some ⟨b, 0, none⟩)) (Lib.byteCells l) w' := by
  refine S.strings_Builder_copyCheck.call ?_
  unfold S.strings_Builder_copyCheck
  rcases h with h | h
  · have hsh := h.shape
    obtain ⟨hB, v, hb, ho, hne⟩ := h
    have hk : Blk w b [.pointer none, v] := ⟨TB, hb⟩
    rw [sNil_ptr, sFldA_ptr S.tfl_strings_Builder_addr, sLoad_cell S.tcell_P_strings_Builder (hk.cells.at 0 rfl), sBin_ptr_eq S.tpt_P_strings_Builder, Option.isNone_none, sIf_true]
    refine sConv_toU (t := TB) (by kernel_rfl) (by kernel_rfl) (by kernel_rfl) hsh (Nat.zero_lt_succ 1) ?_
    refine S.abi_NoEscape.spec ?_
    refine sConv_fromU (t := TB) (by kernel_rfl) (by kernel_rfl) (by kernel_rfl) hsh (by kernel_rfl) ?_
    rw [sNil_ptr, sFldA_ptr S.tfl_strings_Builder_addr]
    refine sStore_T (vs := [.pointer (some ⟨b, 0, none⟩)]) (cs := [.pointer none, v]) S.tsz_P_strings_Builder (by decide) hb rfl rfl (by simp) (by simp; rfl) fun w2 hs2 hg2 hh2 => ?_
    refine ⟨rfl, hg2, hB, v, hh2, bytes_own.2 ((bytes_own.1 ho).wr hg2 ?_), hne⟩
    exact .inr hne
  · have h' := h
    obtain ⟨hB, v, hb, ho, hne⟩ := h
    have hk : Blk w b [.pointer (some ⟨b, 0, none⟩), v] := ⟨TB, hb⟩
    rw [sNil_ptr, sFldA_ptr S.tfl_strings_Builder_addr, sLoad_cell S.tcell_P_strings_Builder (hk.cells.at 0 rfl), sBin_ptr_eq S.tpt_P_strings_Builder, Option.isNone_some, sIf_false, sNil_ptr, sFldA_ptr S.tfl_strings_Builder_addr, sLoad_cell S.tcell_P_strings_Builder (hk.cells.at 0 rfl)]
    refine sBin_ptr_same (t := TB) (by kernel_rfl) (by kernel_rfl) ?_
    rw [sIf_false]
    exact ⟨rfl, grown_refl _ _, h'⟩
theorem bwrite_spec {w : World} {B b : Nat} {l s : List UInt8} (h : Bd w B b l) (hB : B ≤ w.heap.size) (hn : l.length + s.length ≤ 100000000) : sCall Tryd.prog S.strings_Builder_WriteString.n [.pointer (some ⟨b, 0, none⟩), tv s] w fun _ w' => Below B w w' ∧ Bd w' B b (l ++ s) := by
  refine S.strings_Builder_WriteString.call ?_
  unfold S.strings_Builder_WriteString
  refine (copyCheck_spec h).mono ?_
  rintro u w1 ⟨rfl, hg1, hB1, v, hb, ho, hne⟩
  have hk : Blk w1 b [.pointer (some ⟨b, 0, none⟩), v] := ⟨TB, hb⟩
  rw [sNil_ptr, sFldA_ptr S.tfl_strings_Builder_buf, sLoad_cell S.tcell_L_uint8 (hk.cells.at 1 rfl)]
  have ho := bytes_own.1 ho
  have hs1 := hg1.size
  refine sAppend_str S.tel_L_uint8 tstr S.tsz_uint8 S.tze_uint8 tu8z S.tby_uint8 ho (by omega) (by omega) fun v2 w2 ho2 hg2 => ?_
  have hbl : b < w1.heap.size := (Array.getElem?_eq_some_iff.1 hb).1
  have hb2 : w2.heap[b]? = some (.cells ([.pointer (some ⟨b, 0, none⟩), v] : List Value).toArray TB (0, 0)) := (hg2.block b hbl (by intro e; exact hne e.symm)).trans hb
  have hne2 : v2.ownBlock ≠ some b := by
    intro e
    obtain ⟨_, cur, hT⟩ := ho2.row.ty e
    rw [hb2] at hT
    simp only [Option.some.injEq, Obj.cells.injEq] at hT
    exact absurd hT.2.1 (by decide)
  rw [sNil_ptr, sFldA_ptr S.tfl_strings_Builder_buf]
  refine sStore_T (vs := [v2]) (cs := [.pointer (some ⟨b, 0, none⟩), v]) S.tsz_L_uint8 (by decide) hb2 ho2.shape.1 rfl (by simp) (by simp; exact ho2.shape.2) fun w3 hs3 hg3 hh3 => ?_
  rw [sLen_str tstr]
  have ho3 := ho2.wr hg3 (.inr hne2)
  refine ⟨?_, .inr ⟨hB1, v2, hh3, bytes_own.2 ho3, hne2⟩⟩
  refine ⟨hg3.os.trans (hg2.os.trans hg1.os), hg3.tape.trans (hg2.tape.trans hg1.tape), hg3.output.trans (hg2.output.trans hg1.output), by have := hg2.size; omega, fun k hk => ?_⟩
  have h1 : k < w1.heap.size := by omega
  have h2 : k < w2.heap.size := by have := hg2.size; omega
  rw [hg3.block k h2 (by intro e; cases e; omega), hg2.block k h1 (by intro e; have := ho.lt k e.symm; omega), hg1.block k (by omega) (by intro e; cases e; omega)]
theorem blen_spec {w : World} {B b : Nat} {l : List UInt8} (h : Bd w B b l) : sCall Tryd.prog S.strings_Builder_Len.n [.pointer (some ⟨b, 0, none⟩)] w fun u w' => w' = w ∧ u = .int .i64 l.length :=
  S.strings_Builder_Len.calls (Tryd.Builder_Len B b _ w h) fun _ _ q => ⟨_, q.1, q.2, by rw [Lib.byteCells_length]⟩
theorem bstring_spec {w : World} {B b : Nat} {l : List UInt8} (h : Bd w B b l) (hB : B ≤ w.heap.size) : sCall Tryd.prog S.strings_Builder_String.n [.pointer (some ⟨b, 0, none⟩)] w fun u w' => Below B w w' ∧ u = tv l :=
  S.strings_Builder_String.calls (Tryd.Builder_String_any B b l w h hB) fun _ _ q => ⟨_, q.1, q.2, rfl⟩
abbrev encTx (l : List UInt8) : List Value := [tv l]
theorem encTx_ok : Enc encTx 1 := ⟨fun _ => rfl, fun x u hu => by simp at hu; subst hu; rfl⟩
theorem join_nil (ls : List (List UInt8)) : Lib.join ls [] = ls.flatten := by
  cases ls with
  | nil => rfl
  | cons x r =>
    rw [Lib.join_cons]
    unfold Lib.joinTail
    have : (fun y : List UInt8 => [] ++ y) = id := by funext y; rfl
    rw [this, List.map_id]
    rfl
theorem bjoin_spec {w : World} {v : Value} {ls : List (List UInt8)} (h : Sl w v 1 encTx ls) (hn : ls.length ≤ 1000000) (hlen : ls.flatten.length ≤ 100000000) : sCall Tryd.prog S.strings_Join.n [v, .string ⟨#[]⟩] w fun u w' => Ext w w' ∧ u = tv ls.flatten := by
  obtain ⟨a, cap, rfl, g1, g2, g3⟩ := h
  cases ls with
  | nil => exact S.strings_Join.calls (Tryd.strings_Join_none a cap ⟨#[]⟩ w) fun _ _ q => ⟨_, q.1, q.2 ▸ Ext.refl w, rfl⟩
  | cons x r =>
    obtain ⟨bk, o, rfl, hc0⟩ := g3 0 x rfl
    have hm : ((x :: r).map fun l => (⟨l.toArray⟩ : ByteArray)).map (·.data.toList) = x :: r := by
      rw [List.map_map]; exact List.map_id'' (fun _ => rfl) _
    have hj : Lib.join (((x :: r).map fun l => (⟨l.toArray⟩ : ByteArray)).map (·.data.toList)) (⟨#[]⟩ : ByteArray).data.toList = (x :: r).flatten := by
      rw [hm]; exact join_nil _
    have hlt : bk < w.heap.size := by
      have := hc0 0 _ rfl
      exact cell_lt this
    have hq := Tryd.strings_Join bk o cap ((x :: r).map fun l => (⟨l.toArray⟩ : ByteArray)) ⟨#[]⟩ w (fun j y hy => by
      rw [List.getElem?_map] at hy
      obtain ⟨z, hz, rfl⟩ := Option.map_eq_some_iff.1 hy
      obtain ⟨b2, o2, h2, hc⟩ := g3 j z hz
      cases h2
      have := hc 0 _ rfl
      simpa using this) hlt (by rw [List.length_map]; omega) (by rw [List.length_map]; exact g1) (by rw [hj]; omega)
    rw [List.length_map] at hq
    refine S.strings_Join.calls hq fun _ _ q => ⟨_, q.1, q.2, ?_⟩
    rw [hj]
end Go.Proofs.YtpjmmhbdondknaaDoor
namespace Go.Proofs.YtpjmmhbdondknaaDoor
open Go Go.Lift Go.RowKit Go.Txt

/-- A text cut in so many pieces of nearly one size. -/
def cutL : Nat → List Int → List (List Int)
  | 0, _ => []
  | k + 1, l => l.take (l.length / (k + 1)) :: cutL k (l.drop (l.length / (k + 1)))
theorem cutL_len : ∀ (k : Nat) (l : List Int), (cutL k l).length = k
  | 0, _ => rfl
  | k + 1, l => by rw [cutL, List.length_cons, cutL_len k]
theorem cutL_join : ∀ (k : Nat) (l : List Int), (0 < k ∨ l = []) → (cutL k l).flatten = l
  | 0, l, h => by rcases h with h | h; omega; rw [h]; rfl
  | k + 1, l, _ => by
    rw [cutL, List.flatten_cons]
    rw [cutL_join k _ (by
      rcases Nat.eq_zero_or_pos k with rfl | h
      · right; simp
      · exact .inl h)]
    exact List.take_append_drop _ _
theorem cutL_sizes (lo : Nat) : ∀ (k : Nat) (l : List Int), lo * k ≤ l.length → l.length ≤ 16 * k → ∀ p ∈ cutL k l, lo ≤ p.length ∧ p.length ≤ 16
  | 0, _, _, _, p, hp => by simp [cutL] at hp
  | k + 1, l, h1, h2, p, hp => by
    have hm : (k + 1) * (l.length / (k + 1)) + l.length % (k + 1) = l.length := Nat.div_add_mod ..
    have hlt : l.length % (k + 1) < k + 1 := Nat.mod_lt _ (by omega)
    generalize hq : l.length / (k + 1) = q at *
    generalize l.length % (k + 1) = r at *
    have hqle : q ≤ l.length := by rw [← hq]; exact Nat.div_le_self _ _
    have hm' : k * q + q + r = l.length := by rw [← hm, Nat.add_mul, Nat.one_mul]
    have hlo : lo ≤ q := by
      rcases Nat.lt_or_ge q lo with h | h
      · exfalso
        have h3 : k * q ≤ k * (lo - 1) := Nat.mul_le_mul_left k (by omega)
        have h4 : k * (lo - 1) + k = k * lo := by rw [← Nat.mul_succ]; congr 1; omega
        have h5 : lo * (k + 1) = k * lo + lo := by rw [Nat.mul_add, Nat.mul_one, Nat.mul_comm]
        omega
      · exact h
    have hhi : q ≤ 16 := by
      rcases Nat.lt_or_ge 16 q with h | h
      · exfalso
        have h3 : k * 17 ≤ k * q := Nat.mul_le_mul_left k h
        omega
      · exact h
    rw [cutL, hq] at hp
    rcases List.mem_cons.1 hp with rfl | hp
    · rw [List.length_take]; omega
    · refine cutL_sizes lo k (l.drop q) ?_ ?_ p hp
      · rw [List.length_drop]
        have h5 : lo * (k + 1) = lo * k + lo := by rw [Nat.mul_add, Nat.mul_one]
        have h6 : k * lo ≤ k * q := Nat.mul_le_mul_left k hlo
        rw [Nat.mul_comm k lo] at h6
        omega
      · rw [List.length_drop]
        rcases Nat.lt_or_ge 15 q with h | h
        · omega
        · have h3 : k * q ≤ k * 15 := Nat.mul_le_mul_left k h
          omega
/-- The pieces of a text. -/
def pcs (l : List Int) : List (List Int) := cutL ((l.length + 15) / 16) l
theorem pcs_join (l : List Int) : (pcs l).flatten = l := by
  refine cutL_join _ _ ?_
  cases l with
  | nil => exact .inr rfl
  | cons x r => left; rw [List.length_cons]; omega
structure PcOk (p : List Int) : Prop where
  ok : ∀ r ∈ p, okR r
  pos : 1 ≤ p.length
  le : p.length ≤ 16
theorem pcs_ok {l : List Int} (h : ∀ r ∈ l, okR r) : ∀ p ∈ pcs l, PcOk p := fun p hp => by
  have h1 := cutL_sizes 1 _ l (by omega) (by omega) p hp
  refine ⟨fun r hr => h r ?_, h1.1, h1.2⟩
  rw [← pcs_join l]
  exact List.mem_flatten.2 ⟨p, hp, hr⟩
theorem pcs_big {l : List Int} (h : 8 ≤ l.length) : ∀ p ∈ pcs l, 8 ≤ p.length := fun p hp =>
  (cutL_sizes 8 _ l (by omega) (by omega) p hp).1
theorem pcs_len (l : List Int) : (pcs l).length = (l.length + 15) / 16 := cutL_len _ _
theorem itP_ok {p : List Int} (h : PcOk p) : ItOk (itP p) := by
  have h1 := txt_len p
  have h2 := nls_le p
  have h3 := h.le
  exact ⟨⟨by simp only [itP]; omega, by simp only [itP]; omega⟩, ⟨by simp only [itP]; omega, by simp only [itP]; omega⟩, ⟨by simp only [itP]; omega, by simp only [itP]; omega⟩, ⟨by simp [itP], by simp [itP]⟩⟩
theorem itPs_ok {ps : List (List Int)} (h : ∀ p ∈ ps, PcOk p) : ∀ x ∈ ps.map itP, ItOk x := fun x hx => by
  obtain ⟨p, hp, rfl⟩ := List.mem_map.1 hx; exact itP_ok (h p hp)
/-- The sum of pieces. -/
def sP (ps : List (List Int)) : Su := ⟨ps.length, (txt ps.flatten).length, ps.flatten.length, nls ps.flatten, 0, 0⟩
theorem sumPs {ps : List (List Int)} (h : ∀ p ∈ ps, PcOk p) (hn : ps.length ≤ 1000000) : ∀ i, i ≤ ps.length → allS ((ps.map itP).take i) = sP (ps.take i)
  | 0, _ => rfl
  | i + 1, hi => by
    obtain ⟨p, hp⟩ : ∃ p, ps[i]? = some p := ⟨_, List.getElem?_eq_getElem (by omega)⟩
    obtain ⟨hg, _⟩ := allS_grow (itPs_ok h) (by rw [List.length_map]; exact hn) (show (ps.map itP)[i]? = some (itP p) by rw [List.getElem?_map, hp]; rfl)
    rw [hg, sumPs h hn i (by omega), take_succ_of hp]
    unfold sP
    simp only [itP, List.flatten_append, List.flatten_cons, List.flatten_nil, List.append_nil, txt_append, nls_append, List.length_append, List.length_take, List.length_singleton]
    apply Su.ext <;> simp <;> omega
theorem sumP {ps : List (List Int)} (h : ∀ p ∈ ps, PcOk p) (hn : ps.length ≤ 1000000) : allS (ps.map itP) = sP ps := by
  have := sumPs h hn ps.length (Nat.le_refl _)
  rwa [List.take_length, List.take_of_length_le (by rw [List.length_map]; exact Nat.le_refl _)] at this

theorem cut_spec {w : World} {v : Value} {l : List Int} (hM : Mo w) (hl : Sl w v 1 encRn l) (hn : l.length ≤ 1000000) : sCall Tryd.prog S.rope_cut.n [v] w fun u w' => Ext w w' ∧ Row w' w.heap.size S.T.item_Item 7 u encT ((pcs l).map itP) := by
  refine S.rope_cut.call ?_
  unfold S.rope_cut
  have hmx : maxLen = 9223372036854775807 := rfl
  rw [sLen_sl S.tel_L_int32 hl, sBin_add _ _ ⟨by omega, by omega⟩, sBin_sub _ _ ⟨by omega, by omega⟩, sBin_quo _ _ (by omega) (by omega) (by omega)]
  have hk0 : ((l.length : Int) + 16 - 1) / 16 = ((l.length + 15) / 16 : Nat) := by omega
  rw [hk0]
  refine LoopS.intro (fun us w1 => Ext w w1 ∧ ∃ (k : Nat) (v' o : Value) (l' : List Int) (ds : List (List Int)), us = [o, v', .int .i64 k] ∧ Sl w v' 1 encRn l' ∧ l'.length ≤ l.length ∧ Row w1 w.heap.size S.T.item_Item 7 o encT (ds.map itP) ∧ pcs l = ds ++ cutL k l')
    (fun us _ => match us with | [_, _, .int _ a] => a.toNat | _ => 0) ⟨Ext.refl w, _, v, _, l, [], rfl, hl, Nat.le_refl _, Row.nil _ _ _ _ _, rfl⟩ ?_
  rintro us vs w1 ⟨e1, k, v', o, l', ds, rfl, hl', hle, ho, hds⟩
  unfold S.rope_cut_L1
  have hw' := hl'
  have hl' := hl'.ext e1
  have hlen : ds.length + k = (l.length + 15) / 16 := by
    have := congrArg List.length hds
    rw [pcs_len, List.length_append, cutL_len] at this
    omega
  rw [Go.Lift.hd, Go.Lift.tl, Go.Lift.hd, Go.Lift.tl, Go.Lift.hd, sBin_gtr, sIf_dec]
  refine ⟨fun hlt => ?_, fun hge => ?_⟩
  · obtain ⟨m, rfl⟩ : ∃ m, k = m + 1 := ⟨k - 1, by omega⟩
    have hq : (l'.length : Int) / ((m + 1 : Nat) : Int) = ((l'.length / (m + 1) : Nat) : Int) := by rw [Int.natCast_ediv]
    have hqle : l'.length / (m + 1) ≤ l'.length := Nat.div_le_self _ _
    have hcap := sl_cap hl'
    rw [sLen_sl S.tel_L_int32 hl', sBin_quo _ _ (by omega) (by omega) (by omega), hq]
    generalize hn' : l'.length / (m + 1) = n at *
    rw [sSlice_h (hi := n) S.tel_L_int32 S.tsz_int32 (by omega) hl' rfl hqle]
    have p1 : Sl w1 (slV v' 1 0 n (capV v')) 1 encRn (l'.take n) := by
      simpa using hl'.part (lo := 0) (hi := n) (mx := capV v') (by omega) hqle (by omega) (Nat.le_refl _)
    refine (pieceOf_spec (hM.ext e1) p1 (by rw [List.length_take]; omega)).mono ?_
    rintro u w2 ⟨e2, rfl⟩
    refine sBuildSlice_own (n := 1) (enc := encT) (xs := [itP (l'.take n)]) (lp := [(0, encT (itP (l'.take n)))]) S.tel_L_item_Item S.tsz_item_Item rfl S.tze_item_Item (by decide) (by decide) encT_ok rfl rfl fun t w3 ht ho3 e3 hs3 => ?_
    have E3 := (e1.trans e2).trans e3
    refine sAppend_row S.tel_L_item_Item S.tsz_item_Item (by decide) S.tze_item_Item rfl encT_ok ((ho.ext e2).ext e3) E3.size (ho3.sl encT_ok) (by simp; omega) (by rw [S.tby_item_Item]; simp; omega) fun o' w4 ho4 hg4 _ => ?_
    have E4 : Ext w w4 := E3.wr hg4 fun g hg => (ho.lt g hg).1
    have hl4 : Sl w4 v' 1 encRn l' := hw'.ext E4
    rw [sSlice_l (lo := n) S.tel_L_int32 S.tsz_int32 (by omega) hl4 rfl hqle, sBin_sub _ _ ⟨by omega, by omega⟩]
    have p2 : Sl w (slV v' 1 n l'.length (capV v')) 1 encRn (l'.drop n) := by
      simpa using hw'.part (lo := n) (hi := l'.length) (mx := capV v') hqle (by omega) (by omega) (Nat.le_refl _)
    refine ⟨⟨E4, m, _, o', l'.drop n, ds ++ [l'.take n], by simp, p2, by rw [List.length_drop]; omega, by rw [List.map_append]; exact ho4, ?_⟩, by simp only []; omega⟩
    rw [hds, cutL, hn', List.append_assoc]
    rfl
  · obtain rfl : k = 0 := by omega
    rw [cutL, List.append_nil] at hds
    rw [hds]
    exact ⟨e1, ho⟩

/-- A rope of pieces. -/
def Rp (w : World) (v : Value) (ps : List (List Int)) : Prop := (v = .pointer none ∧ ps = []) ∨ ∃ b t, v = .pointer (some ⟨b, 0, none⟩) ∧ Cells w b 0 [t] ∧ Tp w t (ps.map itP)
theorem Rp.ext {w w' : World} {v : Value} {ps : List (List Int)} (h : Rp w v ps) (e : Ext w w') : Rp w' v ps := by
  rcases h with h | ⟨b, t, h1, h2, h3⟩
  · exact .inl h
  · exact .inr ⟨b, t, h1, h2.ext e, h3.ext e⟩
/-- Right pieces of a text that is not too long. -/
structure RpOk (ps : List (List Int)) : Prop where
  ok : ∀ p ∈ ps, PcOk p
  le : ps.flatten.length ≤ 20000
theorem flat_len {ps : List (List Int)} (h : ∀ p ∈ ps, PcOk p) : ps.length ≤ ps.flatten.length := by
  induction ps with
  | nil => simp
  | cons p r ih =>
    have h1 := (h p (List.mem_cons_self ..)).pos
    have h2 := ih fun q hq => h q (List.mem_cons_of_mem _ hq)
    rw [List.flatten_cons, List.length_append, List.length_cons]; omega
theorem RpOk.n {ps : List (List Int)} (h : RpOk ps) : ps.length ≤ 20000 := Nat.le_trans (flat_len h.ok) h.le
theorem RpOk.runes {ps : List (List Int)} (h : RpOk ps) : ∀ r ∈ ps.flatten, okR r := fun r hr => by
  obtain ⟨p, hp, hrp⟩ := List.mem_flatten.1 hr
  exact (h.ok p hp).ok r hrp
theorem RpOk.sum {ps : List (List Int)} (h : RpOk ps) : allS (ps.map itP) = sP ps := sumP h.ok (by have := h.n; omega)
theorem RpOk.sums {ps : List (List Int)} (h : RpOk ps) {i : Nat} (hi : i ≤ ps.length) : allS ((ps.map itP).take i) = sP (ps.take i) := sumPs h.ok (by have := h.n; omega) i hi
theorem RpOk.len {ps : List (List Int)} (h : RpOk ps) : (ps.map itP).length ≤ 1000000 := by have := h.n; rw [List.length_map]; omega
theorem rtree_spec {w : World} {v : Value} {ps : List (List Int)} (h : Rp w v ps) : sCall Tryd.prog S.rope_Rope_tree.n [v] w fun u w' => w' = w ∧ Tp w u (ps.map itP) := by
  refine S.rope_Rope_tree.call ?_
  unfold S.rope_Rope_tree
  rcases h with ⟨rfl, rfl⟩ | ⟨b, t, rfl, hc, ht⟩
  · rw [sBin_ptr_eq S.tpt_P_rope_Rope, Option.isNone_none, sIf_true]
    exact ⟨rfl, Tp.nil w⟩
  · rw [sBin_ptr_eq S.tpt_P_rope_Rope, Option.isNone_some, sIf_false, sNil_ptr, sFldA_ptr S.tfl_rope_Rope_t, sLoad_cell S.tcell_P_tree_Tree (hc.fst rfl)]
    exact ⟨rfl, ht⟩
/-- The tree of a rope, as it was ahead. -/
theorem rtree_spec0 {w0 w : World} {v : Value} {ps : List (List Int)} (h : Rp w0 v ps) (e : Ext w0 w) : sCall Tryd.prog S.rope_Rope_tree.n [v] w fun u w' => w' = w ∧ Tp w0 u (ps.map itP) := by
  refine S.rope_Rope_tree.call ?_
  unfold S.rope_Rope_tree
  rcases h with ⟨rfl, rfl⟩ | ⟨b, t, rfl, hc, ht⟩
  · rw [sBin_ptr_eq S.tpt_P_rope_Rope, Option.isNone_none, sIf_true]
    exact ⟨rfl, Tp.nil w0⟩
  · rw [sBin_ptr_eq S.tpt_P_rope_Rope, Option.isNone_some, sIf_false, sNil_ptr, sFldA_ptr S.tfl_rope_Rope_t, sLoad_cell S.tcell_P_tree_Tree ((hc.ext e).fst rfl)]
    exact ⟨rfl, ht⟩
theorem rsize_spec' {w : World} {v : Value} {ps : List (List Int)} (h : Rp w v ps) (hp : RpOk ps) {dim : Int} (h0 : 0 ≤ dim) (h2 : dim ≤ 2) : sCall Tryd.prog S.rope_Rope_size.n [v, .int .i64 dim] w fun u w' => Ext w w' ∧ u = .int .i64 (szD (sP ps) dim) := by
  refine S.rope_Rope_size.call ?_
  unfold S.rope_Rope_size
  refine (rtree_spec h).mono ?_
  rintro t w1 ⟨rfl, ht⟩
  refine (tsum_spec ht).mono ?_
  rintro u w2 ⟨e2, rfl⟩
  rw [hp.sum, sFld_agg (n := 3) S.tfd_item_Sum_D S.tagg_A3_int]
  unfold szD
  rcases (by omega : dim = 0 ∨ dim = 1 ∨ dim = 2) with rfl | rfl | rfl
  · rw [sIdx_cell (i := 0) (z := 0) (v := .int .i64 (sP ps).d0) S.tar_A3_int S.tcell_int S.tsz_int (by omega) rfl rfl]; exact ⟨e2, rfl⟩
  · rw [sIdx_cell (i := 1) (z := 1) (v := .int .i64 (sP ps).d1) S.tar_A3_int S.tcell_int S.tsz_int (by omega) rfl rfl]; exact ⟨e2, rfl⟩
  · rw [sIdx_cell (i := 2) (z := 2) (v := .int .i64 (sP ps).d2) S.tar_A3_int S.tcell_int S.tsz_int (by omega) rfl rfl]; exact ⟨e2, rfl⟩
theorem rrunes_spec {w : World} {v : Value} {ps : List (List Int)} (h : Rp w v ps) (hp : RpOk ps) : sCall Tryd.prog S.rope_Rope_Runes.n [v] w fun u w' => Ext w w' ∧ u = .int .i64 ps.flatten.length := by
  refine S.rope_Rope_Runes.call ?_
  unfold S.rope_Rope_Runes
  exact (rsize_spec' h hp (by decide) (by decide)).mono fun u w' q => q
theorem rnew_spec {w : World} {s : List UInt8} (hM : Mo w) (hs : s.length ≤ 1000000) : sCall Tryd.prog S.rope_New.n [tv s] w fun u w' => Ext w w' ∧
    ((20000 < (runes s).length ∧ u = .tuple #[.pointer none, .int .i64 5]) ∨ ((runes s).length ≤ 20000 ∧ ∃ b, u = .tuple #[.pointer (some ⟨b, 0, none⟩), .int .i64 0] ∧ Rp w' (.pointer (some ⟨b, 0, none⟩)) (pcs (runes s)))) := by
  refine S.rope_New.call ?_
  unfold S.rope_New
  refine (udecode_spec s (by omega)).mono ?_
  rintro q w1 ⟨e1, hq⟩
  have hqs := hq.sl encRn_ok
  have hrl := runes_len s
  rw [sLen_sl S.tel_L_int32 hqs, sBin_gtr, sIf_dec]
  refine ⟨fun h => ⟨e1, .inl ⟨by omega, rfl⟩⟩, fun h => ?_⟩
  refine (cut_spec (hM.ext e1) hqs (by omega)).mono ?_
  rintro i w2 ⟨e2, hi⟩
  have E2 := e1.trans e2
  have hok := pcs_ok (runes_ok s)
  refine (new_spec (hi.sl encT_ok)).mono ?_
  rintro u w3 ⟨e3, hu⟩
  have E3 := E2.trans e3
  rcases hu with ⟨hb, _⟩ | ⟨_, hno, _⟩ | ⟨_, _, b, r, rfl, hc, hr⟩
  · rw [List.length_map, pcs_len] at hb; omega
  · exact absurd (itPs_ok hok) hno
  · rw [sExtract_0, sExtract_1, sBin_neq, sIf_not]
    refine ⟨fun h => absurd rfl h, fun _ => ?_⟩
    have ht : Tp w3 (.pointer (some ⟨b, 0, none⟩)) ((pcs (runes s)).map itP) := .inr ⟨b, r, rfl, hc, hr⟩
    rw [sBuild_of (cs := [.pointer (some ⟨b, 0, none⟩)]) (lp := [(0, [.pointer (some ⟨b, 0, none⟩)])]) S.tze_rope_Rope S.tpl_rope_Rope rfl rfl]
    refine sBox_new (cs := [.pointer (some ⟨b, 0, none⟩)]) rfl fun b2 w4 hb2 hs4 e4 hk4 => ?_
    exact ⟨E3.trans e4, .inr ⟨by omega, b2, rfl, .inr ⟨b2, _, rfl, hk4.cells, ht.ext e4⟩⟩⟩
theorem rpieces_spec {w : World} {v : Value} {ps : List (List Int)} (h : Rp w v ps) (hp : RpOk ps) : sCall Tryd.prog S.rope_Rope_Pieces.n [v] w fun u w' => Ext w w' ∧ Sl w' u 1 encTx (ps.map txt) := by
  refine S.rope_Rope_Pieces.call ?_
  unfold S.rope_Rope_Pieces
  have hmx : maxLen = 9223372036854775807 := rfl
  have hpn := hp.n
  refine (rtree_spec h).mono ?_
  rintro t w1 ⟨rfl, ht⟩
  refine (titems_spec ht ⟨hp.len⟩).mono ?_
  rintro q w2 ⟨e2, hq⟩
  have hqs := hq.sl encT_ok
  rw [sLen_sl S.tel_L_item_Item hqs, List.length_map]
  refine LoopS.intro (fun us w3 => Ext w2 w3 ∧ ∃ (i : Nat) (o : Value), us = [o, .int .i64 i] ∧ i ≤ ps.length ∧ Row w3 w2.heap.size S.T.string 1 o encTx ((ps.take i).map txt))
    (fun us _ => match us with | [_, .int _ a] => (ps.length - a).toNat | _ => 0) ⟨Ext.refl _, 0, _, rfl, Nat.zero_le _, Row.nil _ _ _ _ _⟩ ?_
  rintro us vs w3 ⟨e3, i, o, rfl, hi, ho⟩
  unfold S.rope_Rope_Pieces_L1
  rw [Go.Lift.hd, Go.Lift.tl, Go.Lift.hd, sBin_lss, sIf_dec]
  refine ⟨fun hlt => ?_, fun hge => ?_⟩
  · obtain ⟨p, hpi⟩ : ∃ p, ps[i]? = some p := ⟨_, List.getElem?_eq_getElem (by omega)⟩
    have hx : (ps.map itP)[i]? = some (itP p) := by rw [List.getElem?_map, hpi]; rfl
    obtain ⟨b, of, hel, hc⟩ := (hqs.ext e3).el hx
    rw [sIdxA_sl S.tel_L_item_Item S.tsz_item_Item (by omega) (hqs.ext e3) hx rfl, hel, sLoad_agg S.tagg_item_Item hc rfl]
    refine sVar S.tze_item_Item S.tsz_item_Item (by decide) rfl rfl (encT_ok.one _) fun b2 w4 hb2 hs4 e4 hk2 => ?_
    rw [sFldA_ptr S.tfl_item_Item_Text, sLoad_cell (v := tv (txt p)) S.tcell_string (hk2.cells.at 6 rfl)]
    refine sBuildSlice_own (n := 1) (enc := encTx) (xs := [txt p]) (lp := [(0, encTx (txt p))]) S.tel_L_string S.tsz_string rfl S.tze_string (by decide) (by decide) encTx_ok rfl rfl fun t w6 ht ho6 e6 hs6 => ?_
    refine sAppend_row S.tel_L_string S.tsz_string (by decide) S.tze_string rfl encTx_ok ((ho.ext e4).ext e6) (by have := (e3.trans e4).size; omega) (ho6.sl encTx_ok) (by simp; omega) (by rw [S.tby_string]; simp; omega) fun v' w7 hv7 hg7 _ => ?_
    rw [sBin_add _ _ ⟨by omega, by omega⟩]
    refine ⟨⟨((e3.trans e4).trans e6).wr hg7 fun g hg => (ho.lt g hg).1, i + 1, v', by simp, by omega, ?_⟩, by simp only []; omega⟩
    rw [take_succ_of hpi, List.map_append]; exact hv7
  · obtain rfl : i = ps.length := by omega
    rw [List.take_length] at ho
    exact ⟨e2.trans e3, ho.sl encTx_ok⟩
theorem txt_flat (ps : List (List Int)) : (ps.map txt).flatten = txt ps.flatten := by
  induction ps with
  | nil => rfl
  | cons p r ih => rw [List.map_cons, List.flatten_cons, List.flatten_cons, txt_append, ih]
theorem rtext_spec {w : World} {v : Value} {ps : List (List Int)} (h : Rp w v ps) (hp : RpOk ps) : sCall Tryd.prog S.rope_Rope_Text.n [v] w fun u w' => Ext w w' ∧ u = tv (txt ps.flatten) := by
  refine S.rope_Rope_Text.call ?_
  unfold S.rope_Rope_Text
  refine (rpieces_spec h hp).mono ?_
  rintro q w1 ⟨e1, hq⟩
  have hn := hp.n
  have hl := hp.le
  have ht := txt_len ps.flatten
  refine (bjoin_spec hq (by rw [List.length_map]; omega) (by rw [txt_flat]; omega)).mono ?_
  rintro u w2 ⟨e2, rfl⟩
  exact ⟨e1.trans e2, by rw [txt_flat]⟩
end Go.Proofs.YtpjmmhbdondknaaDoor
