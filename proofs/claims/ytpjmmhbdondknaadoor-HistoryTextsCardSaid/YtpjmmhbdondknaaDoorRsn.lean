/- Laws for the operations of code without slots: what each of them gives at values of known shape; reading and writing memory; worlds that grow. Conditions: the types' facts, which are closed. -/
import Derived.Test.YtpjmmhbdondknaaDoorLift
import Derived.KernelRfl
import Derived.Below
namespace Go.Lift
open Go Go.RowKit

/-! ## Types -/
def aggQ (P : Program) (T : TypeId) : Bool := match P.underlying T with | some (.struct _) => true | some (.array _ _) => true | _ => false
def knownQ (P : Program) (T : TypeId) : Bool := (P.underlying T).isSome && (P.info? T).isSome
def szQ (P : Program) (T : TypeId) : Nat := match P.info? T with | some i => i.size | none => 0
def byQ (P : Program) (T : TypeId) : Nat := match P.info? T with | some i => i.bytes | none => 0
def zeroQ (P : Program) (T : TypeId) : Option (List Value) := match P.info? T with | some i => i.zero.map fun z => z.cells.toList | none => none
/-- The element's type of a slice type. -/
def elQ (P : Program) (T : TypeId) : Option Nat := match P.underlying T with | some (.slice e) => some e | _ => none
/-- A type of one cell that is no struct and no array. -/
def cellQ (P : Program) (T : TypeId) : Bool := match P.underlying T with | some (.struct _) => false | some (.array _ _) => false | some _ => true | none => false
/-- A struct or array: how many cells. -/
def aggN (P : Program) (T : TypeId) : Option Nat := match P.underlying T with | some (.struct _) => (P.info? T).map (·.size) | some (.array _ _) => (P.info? T).map (·.size) | _ => none
/-- The offset of a field that has cells. -/
def flQ (P : Program) (T : TypeId) (f : Nat) : Option Nat := match P.underlying T with | some (.struct fs) => (match fs[f]? with | some x => (match P.info? x.type with | some i => if i.size = 0 then none else some x.offset | none => none) | none => none) | _ => none

/-- An array type: how many, of what. -/
def arQ (P : Program) (T : TypeId) : Option (Nat × Nat) := match P.underlying T with | some (.array n e) => some (n, e) | _ => none

/-! ## Ints and bools -/
section
variable {P : Program} {T : TypeId} {cx cy : Bool} {w : World} {K : K1} {k : IntKind}

def numOp (op : BinOp) (k : IntKind) (a b : Int) : Sem Value :=
  match op with
  | .add | .sub | .mul => Op.intArith op k a b
  | .quo | .rem => Op.intDiv op k a b
  | .and | .or | .xor | .andNot => Op.intBits op k a b
  | _ => Op.intCmp op a b
theorem sBin_num (op : BinOp) (a b : Int) (h1 : op ≠ .shl) (h2 : op ≠ .shr) : sBin P op T cx cy (.int k a) (.int k b) w K = after P (numOp op k a b) w K := by
  have hb : binOp op T (.int k a) (.int k b) = numOp op k a b := by
    cases op <;> first | exact absurd rfl h1 | exact absurd rfl h2 | simp [binOp, numOp]
  have hg : (eqGuard op T (bif cx then .const (.int k a) else .tmp 0) (bif cy then .const (.int k b) else .tmp 0) (.int k a) (.int k b)).run P w = .ok () w := by
    unfold eqGuard
    cases op <;> simp
  unfold sBin after
  rw [Sem.run_bind, hg, Result.andThen_ok, hb]

theorem sBin_lss (a b : Int) : sBin P .lss T cx cy (.int k a) (.int k b) w K = K (.bool (decide (a < b))) w := by rw [sBin_num _ _ _ (by decide) (by decide)]; simp [after, numOp, Op.intCmp]
theorem sBin_leq (a b : Int) : sBin P .leq T cx cy (.int k a) (.int k b) w K = K (.bool (decide (a ≤ b))) w := by rw [sBin_num _ _ _ (by decide) (by decide)]; simp [after, numOp, Op.intCmp]
theorem sBin_gtr (a b : Int) : sBin P .gtr T cx cy (.int k a) (.int k b) w K = K (.bool (decide (b < a))) w := by rw [sBin_num _ _ _ (by decide) (by decide)]; simp [after, numOp, Op.intCmp]
theorem sBin_geq (a b : Int) : sBin P .geq T cx cy (.int k a) (.int k b) w K = K (.bool (decide (b ≤ a))) w := by rw [sBin_num _ _ _ (by decide) (by decide)]; simp [after, numOp, Op.intCmp]
theorem sBin_eql (a b : Int) : sBin P .eql T cx cy (.int k a) (.int k b) w K = K (.bool (decide (a = b))) w := by
  rw [sBin_num _ _ _ (by decide) (by decide)]; simp [after, numOp, Op.intCmp]; rfl
theorem sBin_neq (a b : Int) : sBin P .neq T cx cy (.int k a) (.int k b) w K = K (.bool (!decide (a = b))) w := by
  rw [sBin_num _ _ _ (by decide) (by decide)]; simp [after, numOp, Op.intCmp, bne]; rfl
theorem sBin_addw (a b : Int) : sBin P .add T cx cy (.int k a) (.int k b) w K = K (.int k (k.wrap (a + b))) w := by rw [sBin_num _ _ _ (by decide) (by decide)]; simp [after, numOp, Op.intArith]
theorem sBin_subw (a b : Int) : sBin P .sub T cx cy (.int k a) (.int k b) w K = K (.int k (k.wrap (a - b))) w := by rw [sBin_num _ _ _ (by decide) (by decide)]; simp [after, numOp, Op.intArith]
theorem sBin_mulw (a b : Int) : sBin P .mul T cx cy (.int k a) (.int k b) w K = K (.int k (k.wrap (a * b))) w := by rw [sBin_num _ _ _ (by decide) (by decide)]; simp [after, numOp, Op.intArith]
/-- A number that an int holds. -/
abbrev I64 (n : Int) : Prop := -9223372036854775808 ≤ n ∧ n ≤ 9223372036854775807
theorem sBin_add (a b : Int) (h : I64 (a + b)) : sBin P .add T cx cy (.int .i64 a) (.int .i64 b) w K = K (.int .i64 (a + b)) w := by rw [sBin_addw, IntWalk.i64_in _ h]
theorem sBin_sub (a b : Int) (h : I64 (a - b)) : sBin P .sub T cx cy (.int .i64 a) (.int .i64 b) w K = K (.int .i64 (a - b)) w := by rw [sBin_subw, IntWalk.i64_in _ h]
theorem sBin_mul (a b : Int) (h : I64 (a * b)) : sBin P .mul T cx cy (.int .i64 a) (.int .i64 b) w K = K (.int .i64 (a * b)) w := by rw [sBin_mulw, IntWalk.i64_in _ h]
theorem sBin_quo (a b : Int) (h0 : 0 ≤ a) (h1 : 0 < b) (h : a ≤ 9223372036854775807) : sBin P .quo T cx cy (.int .i64 a) (.int .i64 b) w K = K (.int .i64 (a / b)) w := by
  rw [sBin_num _ _ _ (by decide) (by decide)]
  have hq : a.tdiv b = a / b := by rw [Int.tdiv_eq_ediv_of_nonneg h0]
  have hle : a / b ≤ a := Int.ediv_le_self b h0
  have hge : 0 ≤ a / b := Int.ediv_nonneg h0 (by omega)
  have hb : b ≠ 0 := by omega
  simp [after, numOp, Op.intDiv, hb, hq, IntWalk.i64_in (a / b) ⟨by omega, by omega⟩]
theorem sBin_rem (a b : Int) (h0 : 0 ≤ a) (h1 : 0 < b) (h : b ≤ 9223372036854775807) : sBin P .rem T cx cy (.int .i64 a) (.int .i64 b) w K = K (.int .i64 (a % b)) w := by
  rw [sBin_num _ _ _ (by decide) (by decide)]
  have hq : a.tmod b = a % b := by rw [Int.tmod_eq_emod_of_nonneg h0]
  have hlt : a % b < b := Int.emod_lt_of_pos a h1
  have hge : 0 ≤ a % b := Int.emod_nonneg a (by omega)
  have hb : b ≠ 0 := by omega
  simp [after, numOp, Op.intDiv, hb, hq]

theorem sUn_not (b : Bool) : sUn P .not (.bool b) w K = K (.bool (!b)) w := by simp [sUn, after, Op.unary]
theorem sIf_true {A B : Prop} : sIf (.bool true) A B = A := rfl
theorem sIf_false {A B : Prop} : sIf (.bool false) A B = B := rfl
theorem sIf_dec {p : Prop} [Decidable p] {A B : Prop} : sIf (.bool (decide p)) A B = ((p → A) ∧ (¬ p → B)) := by
  by_cases h : p <;> simp [h, sIf_true, sIf_false]
theorem sIf_not {p : Prop} [Decidable p] {A B : Prop} : sIf (.bool (!decide p)) A B = ((¬ p → A) ∧ (p → B)) := by
  by_cases h : p <;> simp [h, sIf_true, sIf_false]
theorem sIf_pos {p : Prop} [Decidable p] {A B : Prop} (h : p) : sIf (.bool (decide p)) A B = A := by simp [h, sIf_true]
theorem sIf_neg {p : Prop} [Decidable p] {A B : Prop} (h : ¬ p) : sIf (.bool (decide p)) A B = B := by simp [h, sIf_false]
theorem sIf_bool {b : Bool} {A B : Prop} : sIf (.bool b) A B = ((b = true → A) ∧ (b = false → B)) := by cases b <;> simp [sIf_true, sIf_false]
theorem sPick_true {a b : Value} : sPick (.bool true) a b w K = K a w := rfl
theorem sPick_false {a b : Value} : sPick (.bool false) a b w K = K b w := rfl
theorem sNil_ptr (a : Addr) : sNil (.pointer (some a)) w K = K (.pointer (some a)) w := rfl
theorem stillS_ret {C : World → Prop} {v : Value} {k : Value → Prop} : stillS C w (fun w k => k v w) k = k v := by
  unfold stillS
  apply propext
  constructor
  · rintro ⟨u, ⟨rfl, _⟩, _, h⟩; exact h
  · intro h; exact ⟨v, ⟨rfl, rfl⟩, fun _ _ => ⟨rfl, rfl⟩, h⟩
theorem stillS_of {C : World → Prop} {E : World → K1 → Prop} {k : Value → Prop} (v : Value) (hC : C w) (h : ∀ w1, C w1 → ∀ K : K1, K v w1 → E w1 K) (hk : k v) : stillS C w E k :=
  ⟨v, h w hC _ ⟨rfl, rfl⟩, fun w1 h1 => h w1 h1 _ ⟨rfl, rfl⟩, hk⟩
theorem sExtract_0 {a : Value} {r : List Value} : sExtract (.tuple ⟨a :: r⟩) 0 w K = K a w := rfl
theorem sExtract_1 {a b : Value} {r : List Value} : sExtract (.tuple ⟨a :: b :: r⟩) 1 w K = K b w := rfl
theorem sExtract_2 {a b c : Value} {r : List Value} : sExtract (.tuple ⟨a :: b :: c :: r⟩) 2 w K = K c w := rfl
end

/-! ## Worlds that grow -/
/-- Nothing that was there has changed. -/
abbrev Ext (w w' : World) : Prop := Below w.heap.size w w'
theorem Ext.refl (w : World) : Ext w w := Below.refl _ _
theorem Ext.trans {a b c : World} (h : Ext a b) (k : Ext b c) : Ext a c := Below.trans h (k.mono h.size)
theorem Ext.drew {a b : World} (h : Ext a b) : Ext a b.drew := Below.drew h
theorem Ext.alloc {a b : World} (h : Ext a b) (o : Obj) : Ext a (b.alloc o) := Below.alloc h h.size o

/-- The cells at a place. -/
def Cells (w : World) (b o : Nat) (cs : List Value) : Prop := ∀ i v, cs[i]? = some v → w.cell? ⟨b, o + i, none⟩ = some v
theorem cell_lt {w : World} {a : Addr} {v : Value} (h : w.cell? a = some v) : a.block < w.heap.size := World.block_lt_of_cell? w a h
theorem Ext.cell {w w' : World} (h : Ext w w') {a : Addr} {v : Value} (hc : w.cell? a = some v) : w'.cell? a = some v := (Below.cell h (cell_lt hc)).trans hc
theorem Cells.ext {w w' : World} {b o : Nat} {cs : List Value} (h : Cells w b o cs) (e : Ext w w') : Cells w' b o cs := fun i v hi => e.cell (h i v hi)
theorem Cells.at {w : World} {b o : Nat} {cs : List Value} (h : Cells w b o cs) (i : Nat) {v : Value} (hi : cs[i]? = some v) : w.cell? ⟨b, o + i, none⟩ = some v := h i v hi
theorem Cells.fst {w : World} {b o : Nat} {cs : List Value} (h : Cells w b o cs) {v : Value} (hi : cs[0]? = some v) : w.cell? ⟨b, o, none⟩ = some v := h 0 v hi
theorem Cells.sub {w : World} {b o : Nat} {cs : List Value} (h : Cells w b o cs) (i n : Nat) : Cells w b (o + i) ((cs.drop i).take n) := by
  intro j v hj
  rw [List.getElem?_take] at hj
  split at hj
  · rw [List.getElem?_drop] at hj
    have := h _ v hj
    rwa [Nat.add_assoc]
  · cases hj

/-- A block that is known whole. -/
def Blk (w : World) (b : Nat) (cs : List Value) : Prop := ∃ T, w.heap[b]? = some (.cells cs.toArray T (0, 0))
theorem Blk.lt {w : World} {b : Nat} {cs : List Value} (h : Blk w b cs) : b < w.heap.size := let ⟨_, h⟩ := h; (Array.getElem?_eq_some_iff.1 h).1
theorem Blk.cells {w : World} {b : Nat} {cs : List Value} (h : Blk w b cs) : Cells w b 0 cs := by
  obtain ⟨T, h⟩ := h
  intro i v hi
  simp [World.cell?, h, hi]
theorem Blk.ext {w w' : World} {b : Nat} {cs : List Value} (h : Blk w b cs) (e : Ext w w') : Blk w' b cs := by
  obtain ⟨T, h'⟩ := h
  exact ⟨T, (e.block b (Blk.lt ⟨T, h'⟩)).trans h'⟩
theorem Blk.new (w : World) (cs : List Value) (T : TypeId) : Blk (w.alloc (.cells cs.toArray T)) w.heap.size cs := ⟨T, heap_alloc_new w _⟩
theorem Ext.new (w : World) (o : Obj) : Ext w (w.alloc o) := (Ext.refl w).alloc o
/-- What is written into one block. -/
abbrev Wr (b : Nat) (w w' : World) : Prop := w.grownBy w' (some b)
theorem Blk.wr {w w' : World} {row : Option Nat} {b : Nat} {cs : List Value} (h : Blk w b cs) (g : w.grownBy w' row) (hb : some b ≠ row) : Blk w' b cs := by
  obtain ⟨T, h'⟩ := h
  exact ⟨T, (g.block b (Blk.lt ⟨T, h'⟩) hb).trans h'⟩
theorem Ext.wr {w0 w w' : World} {row : Option Nat} (h : Ext w0 w) (g : w.grownBy w' row) (hb : ∀ b, row = some b → w0.heap.size ≤ b) : Ext w0 w' := Below.grown h g h.size hb
theorem Cells.wr {w w' : World} {row : Option Nat} {b o : Nat} {cs : List Value} (h : Cells w b o cs) (g : w.grownBy w' row) (hb : some b ≠ row) : Cells w' b o cs := fun i v hi => g.cell (h i v hi) hb
theorem grown_of_ext {w w' : World} (e : Ext w w') (row : Option Nat) : w.grownBy w' row := ⟨e.os, e.tape, e.output, e.size, fun k hk _ => e.block k hk⟩


section
variable {P : Program} {T : TypeId} {w : World} {K : K1}

theorem run_isAgg_cell (hT : cellQ P T = true) : (isAgg T).run P w = .ok false w := by
  unfold cellQ at hT
  cases hu : P.underlying T with
  | none => rw [hu] at hT; cases hT
  | some d => rw [hu] at hT; cases d <;> first | (cases hT; done) | simp [isAgg, run_underlying hu]
theorem run_isAgg_agg {n : Nat} (hT : aggN P T = some n) : (isAgg T).run P w = .ok true w ∧ (sizeOf T).run P w = .ok n w := by
  unfold aggN at hT
  cases hu : P.underlying T with
  | none => rw [hu] at hT; cases hT
  | some d =>
    rw [hu] at hT
    cases d <;> first | (cases hT; done) | skip
    all_goals
      simp only [Option.map_eq_some_iff] at hT
      obtain ⟨i, hi, rfl⟩ := hT
      exact ⟨by simp [isAgg, run_underlying hu], by simp [sizeOf, typeInfo, hi]⟩

theorem sLoad_cell {a : Addr} {v : Value} (hT : cellQ P T = true) (h : w.cell? a = some v) : sLoad P T (.pointer (some a)) w K = K v w := by
  simp [sLoad, after, Instr.loadAt, Instr.sureAddr, loadVar, run_isAgg_cell hT, h]
theorem sLoad_agg {b o n : Nat} {cs : List Value} (hT : aggN P T = some n) (h : Cells w b o cs) (hn : cs.length = n) : sLoad P T (.pointer (some ⟨b, o, none⟩)) w K = K (.agg cs.toArray) w := by
  obtain ⟨h1, h2⟩ := run_isAgg_agg (w := w) hT
  have hl : (loadCells ⟨b, o, none⟩ n).run P w = .ok cs.toArray w := by
    rw [← hn]
    refine run_loadCells_list w _ cs fun j v hj => ?_
    have := h j v hj
    unfold Addr.add
    split
    · subst_vars; simpa using this
    · exact this
  simp [sLoad, after, Instr.loadAt, Instr.sureAddr, loadVar, h1, h2, hl]

theorem add_addr (b o k : Nat) : (⟨b, o, none⟩ : Addr).add k = ⟨b, o + k, none⟩ := by
  unfold Addr.add
  split
  · subst_vars; rfl
  · rfl

theorem sFldA_ptr {b o f off : Nat} (hT : flQ P T f = some off) : sFldA P T (.pointer (some ⟨b, o, none⟩)) f w K = K (.pointer (some ⟨b, o + off, none⟩)) w := by
  unfold flQ at hT
  cases hu : P.underlying T with
  | none => rw [hu] at hT; cases hT
  | some d =>
    rw [hu] at hT
    cases d <;> first | (cases hT; done) | skip
    rename_i fs
    dsimp only at hT
    cases hf : fs[f]? with
    | none => rw [hf] at hT; cases hT
    | some x =>
      rw [hf] at hT
      dsimp only at hT
      cases hi : P.info? x.type with
      | none => rw [hi] at hT; cases hT
      | some i =>
        rw [hi] at hT
        dsimp only at hT
        split at hT
        · cases hT
        · rename_i hz
          cases hT
          simp [sFldA, after, Instr.fieldAt, run_underlying hu, hf, Instr.sureAddr, fieldPlace, sizeOf, typeInfo, hi, hz, add_addr]

/-! ## Slices that are read -/
/-- A slice value reads as a list, each element of so many cells. -/
def Sl {α : Type} (w : World) (v : Value) (k : Nat) (enc : α → List Value) (xs : List α) : Prop :=
  ∃ a cap, v = .slice a xs.length cap ∧ xs.length ≤ cap ∧ cap ≤ maxLen ∧ ∀ i x, xs[i]? = some x → ∃ b o, a = some ⟨b, o, none⟩ ∧ Cells w b (o + i * k) (enc x)
theorem Sl.ext {α : Type} {w w' : World} {v : Value} {k : Nat} {enc : α → List Value} {xs : List α} (h : Sl w v k enc xs) (e : Ext w w') : Sl w' v k enc xs := by
  obtain ⟨a, cap, hv, h1, h2, h3⟩ := h
  exact ⟨a, cap, hv, h1, h2, fun i x hx => let ⟨b, o, ha, hc⟩ := h3 i x hx; ⟨b, o, ha, hc.ext e⟩⟩
theorem Sl.nil {α : Type} (w : World) (k : Nat) (enc : α → List Value) : Sl w (.slice none 0 0) k enc [] := ⟨none, 0, rfl, Nat.le_refl _, Nat.zero_le _, fun i x hx => by simp at hx⟩
theorem Sl.len_le {α : Type} {w : World} {v : Value} {k : Nat} {enc : α → List Value} {xs : List α} (h : Sl w v k enc xs) : xs.length ≤ 9223372036854775807 := by
  obtain ⟨a, cap, hv, h1, h2, h3⟩ := h
  have : maxLen = 9223372036854775807 := rfl
  omega

/-- The place of an element. -/
def elA (v : Value) (k i : Nat) : Addr := match v with | .slice (some a) _ _ => a.add (i * k) | _ => default

theorem Sl.el {α : Type} {w : World} {v : Value} {k : Nat} {enc : α → List Value} {xs : List α} (h : Sl w v k enc xs) {i : Nat} {x : α} (hx : xs[i]? = some x) : ∃ b o, elA v k i = ⟨b, o, none⟩ ∧ Cells w b o (enc x) := by
  obtain ⟨a, cap, rfl, h1, h2, h3⟩ := h
  obtain ⟨b, o, rfl, hc⟩ := h3 i x hx
  exact ⟨b, o + i * k, by simp only [elA]; rw [add_addr], hc⟩

theorem elQ_spec {e : Nat} (hel : elQ P T = some e) : P.underlying T = some (.slice e) := by
  unfold elQ at hel
  cases hu : P.underlying T with
  | none => rw [hu] at hel; cases hel
  | some d => rw [hu] at hel; cases d <;> first | (cases hel; done) | (cases hel; rfl)

theorem sLen_sl {α : Type} {v : Value} {k : Nat} {enc : α → List Value} {xs : List α} {e ty : Nat} (hel : elQ P T = some e) (h : Sl w v k enc xs) : sBuiltin P .len [T] ty [v] w K = K (.int .i64 xs.length) w := by
  obtain ⟨a, cap, rfl, _⟩ := h
  simp [sBuiltin, after, Builtin.len_, run_underlying (elQ_spec hel), goInt]

theorem sizeOf_run {e k : Nat} (hk : szQ P e = k) (h0 : 0 < k) : (sizeOf e).run P w = .ok k w := by
  unfold szQ at hk
  cases hi : P.info? e with
  | none => rw [hi] at hk; dsimp only at hk; omega
  | some i => rw [hi] at hk; dsimp only at hk; simp [sizeOf, typeInfo, hi, hk]

theorem sIdxA_sl {α : Type} {v : Value} {k : Nat} {enc : α → List Value} {xs : List α} {e : Nat} {kd : IntKind} {z : Int} {i : Nat} {x : α} (hel : elQ P T = some e) (hk : szQ P e = k) (h0 : 0 < k) (h : Sl w v k enc xs) (hx : xs[i]? = some x) (hz : z = i) :
    sIdxA P T v (.int kd z) w K = K (.pointer (some (elA v k i))) w := by
  obtain ⟨a, cap, rfl, h1, h2, h3⟩ := h
  obtain ⟨b, o, rfl, hc⟩ := h3 i x hx
  subst hz
  have hlt : i < xs.length := (List.getElem?_eq_some_iff.1 hx).1
  have hcond : (0 : Int) ≤ i ∧ (i : Int) < xs.length := ⟨by omega, by omega⟩
  simp [sIdxA, after, Instr.indexAt, asIntOf, run_underlying (elQ_spec hel), hlt, sizeOf_run hk h0, elA, add_addr]
end

/-! ## Memory that is made and written -/
def splice (cs : List Value) (o : Nat) (vs : List Value) : List Value := cs.take o ++ vs ++ cs.drop (o + vs.length)
theorem splice_len {cs vs : List Value} {o : Nat} (h : o + vs.length ≤ cs.length) : (splice cs o vs).length = cs.length := by
  unfold splice; simp only [List.length_append, List.length_take, List.length_drop]; omega

section
variable {P : Program} {T : TypeId} {w : World} {K : K1}

theorem sAlloc_new {zs : List Value} (hz : zeroQ P T = some zs) (h : ∀ b w', b = w.heap.size → w'.heap.size = b + 1 → Ext w w' → Blk w' b zs → K (.pointer (some ⟨b, 0, none⟩)) w') : sAlloc P T w K := by
  unfold zeroQ at hz
  cases hi : P.info? T with
  | none => rw [hi] at hz; cases hz
  | some i =>
    rw [hi] at hz
    dsimp only at hz
    cases hzz : i.zero with
    | none => rw [hzz] at hz; cases hz
    | some z =>
      rw [hzz] at hz
      simp only [Option.map_some, Option.some.injEq] at hz
      subst hz
      have := h w.heap.size (w.alloc (.cells z.cells T)) rfl (by simp) (Ext.new w _) (by simpa using Blk.new w z.cells.toList T)
      have hr : (Instr.alloc T true (.tuple #[])).run P w = .ok (.pointer (some ⟨w.heap.size, 0, none⟩)) (w.alloc (.cells z.cells T)) := by
        simp [Instr.alloc, zeroValue, typeInfo, hi, hzz, newVar, newRow]
      unfold sAlloc after
      rw [hr]
      exact this

theorem sBox_new {v : Value} {cs : List Value} (hv : v.cells = cs.toArray) (h : ∀ b w', b = w.heap.size → w'.heap.size = b + 1 → Ext w w' → Blk w' b cs → K (.pointer (some ⟨b, 0, none⟩)) w') : sBox P T v w K := by
  have := h w.heap.size (w.alloc (.cells cs.toArray T)) rfl (by simp) (Ext.new w _) (Blk.new w cs T)
  have hr : (Instr.box T v).run P w = .ok (.pointer (some ⟨w.heap.size, 0, none⟩)) (w.alloc (.cells cs.toArray T)) := by
    simp [Instr.box, newVar, newRow, hv]
  unfold sBox after
  rw [hr]
  exact this

theorem sStore_blk {b o n : Nat} {cs vs : List Value} {v : Value} {K : World → Prop} (hT : szQ P T = n) (h0 : 0 < n) (hb : Blk w b cs) (hv : v.cells = vs.toArray) (hn : vs.length = n) (hle : o + n ≤ cs.length) (h1 : ∀ u ∈ vs, u.oneCell' = true)
    (h : ∀ w', w'.heap.size = w.heap.size → Wr b w w' → Blk w' b (splice cs o vs) → K w') : sStore P T (.pointer (some ⟨b, o, none⟩)) v w K := by
  obtain ⟨E, hh⟩ := hb
  subst hn
  have hst := run_storeCells_at P b o E vs 0 cs.toArray w hh (by simp; omega) h1
  have := h (w.setRow b (splice cs o vs).toArray) (by simp) ⟨rfl, rfl, rfl, by simp, fun k _ hk => setRow_other w b k _ (fun e => hk (by rw [e]))⟩ ⟨E, setRow_heap w b _ _ E _ hh⟩
  unfold splice at this
  simp only [Nat.add_zero] at hst
  have hr : (Instr.storeAt T (.pointer (some ⟨b, o, none⟩)) v).run P w = .ok () (w.setRow b (cs.take o ++ vs ++ cs.drop (o + vs.length)).toArray) := by
    simp [Instr.storeAt, Instr.sureAddr, storeVar, sizeOf_run hT h0, hv]
    simpa using hst
  unfold sStore after
  rw [hr]
  exact this

/-- A variable that is made and given its value at once. -/
theorem sVar {zs vs : List Value} {v : Value} {K : Value → World → Prop} (hz : zeroQ P T = some zs) (hT : szQ P T = zs.length) (h0 : 0 < zs.length) (hv : v.cells = vs.toArray) (hn : vs.length = zs.length) (h1 : ∀ u ∈ vs, u.oneCell' = true)
    (h : ∀ b w', b = w.heap.size → w'.heap.size = b + 1 → Ext w w' → Blk w' b vs → K (.pointer (some ⟨b, 0, none⟩)) w') : sAlloc P T w fun p w => sStore P T p v w fun w => K p w := by
  refine sAlloc_new hz fun b w1 hb hs he hk => ?_
  refine sStore_blk hT h0 hk hv hn (by omega) h1 fun w2 hs2 hw hk2 => ?_
  refine h b w2 hb (by omega) (he.wr hw (by rintro _ ⟨rfl⟩; omega)) ?_
  have : splice zs 0 vs = vs := by unfold splice; simp [hn]
  rwa [this] at hk2

/-- The fields of a struct type, or the elements of an array type: where they are, and their sizes. -/
def plQ (P : Program) (T : TypeId) : Option (List (Nat × Nat)) :=
  match P.underlying T with
  | some (.struct fs) => fs.toList.mapM fun f => (P.info? f.type).map fun i => (f.offset, i.size)
  | some (.array n e) => (P.info? e).map fun i => (List.range n).map fun k => (k * i.size, i.size)
  | _ => none
def buildF (pl : Nat → Option (Nat × Nat)) : List Value → List (Nat × List Value) → Option (List Value)
  | cs, [] => some cs
  | cs, (i, vs) :: r =>
    match pl i with
    | none => none
    | some (o, s) => if vs.length = s ∧ o + s ≤ cs.length then buildF pl (splice cs o vs) r else none

theorem foldl_splice (o : Nat) : ∀ (vs : List Value) (j : Nat) (cells : Array Value), o + j + vs.length ≤ cells.size →
    ((vs.zipIdx j).foldl (fun cs (c : Value × Nat) => cs.setIfInBounds (o + c.2) c.1) cells).toList = splice cells.toList (o + j) vs
  | [], j, cells, _ => by simp [splice]
  | v :: vs, j, cells, h => by
    simp only [List.zipIdx_cons, List.foldl_cons]
    rw [foldl_splice o vs (j + 1) _ (by simp at h ⊢; omega)]
    simp only [splice, Array.toList_setIfInBounds, List.length_cons]
    have e := list_seg_step cells.toList (o + j) v vs (by simp at h ⊢; omega)
    simpa [Nat.add_assoc] using e

theorem fill_build {place : Nat → Option (Nat × Nat)} : ∀ (parts : List (Nat × Value)) (lp : List (Nat × List Value)) (cells : Array Value) (cs : List Value),
    parts.map (fun p => (p.1, p.2.cells)) = lp.map (fun p => (p.1, p.2.toArray)) → buildF place cells.toList lp = some cs → Instr.fill place cells parts = some cs.toArray
  | [], [], cells, cs, _, h => by simp only [buildF, Option.some.injEq] at h; subst h; simp [Instr.fill]
  | [], _ :: _, _, _, h, _ => by simp at h
  | _ :: _, [], _, _, h, _ => by simp at h
  | (i, v) :: parts, (i', vs) :: lp, cells, cs, hp, h => by
    simp only [List.map_cons, List.cons.injEq, Prod.mk.injEq] at hp
    obtain ⟨⟨rfl, hv⟩, hp⟩ := hp
    unfold buildF at h
    unfold Instr.fill
    cases hpl : place i with
    | none => rw [hpl] at h; cases h
    | some os =>
      obtain ⟨o, s⟩ := os
      rw [hpl] at h
      dsimp only at h ⊢
      split at h
      · rename_i hc
        obtain ⟨hl, hle⟩ := hc
        rw [hv, if_neg (by simp at hle ⊢; omega)]
        refine fill_build parts lp _ cs hp ?_
        have := foldl_splice o vs 0 cells (by simp at hle ⊢; omega)
        rw [← h]
        congr 1
        rw [← Array.foldl_toList]
        simpa [Array.toList_zipIdx] using this
      · cases h

theorem buildF_mono {pl pl' : Nat → Option (Nat × Nat)} (h : ∀ i os, pl i = some os → pl' i = some os) : ∀ (lp : List (Nat × List Value)) (zs cs : List Value), buildF pl zs lp = some cs → buildF pl' zs lp = some cs
  | [], _, _, hb => hb
  | (i, vs) :: r, zs, cs, hb => by
    unfold buildF at hb ⊢
    cases hpl : pl i with
    | none => rw [hpl] at hb; cases hb
    | some os =>
      rw [hpl] at hb
      rw [h i os hpl]
      dsimp only at hb ⊢
      split at hb
      · rename_i hc; rw [if_pos hc]; exact buildF_mono h r _ cs hb
      · cases hb

theorem mapM_places {fs : List Field} {l : List (Nat × Nat)} (h : fs.mapM (fun f => (P.info? f.type).map fun i => (f.offset, i.size)) = some l) :
    (fs.mapM fun f => do pure (f.offset, ← sizeOf f.type) : Sem (List (Nat × Nat))).run P w = .ok l w := by
  induction fs generalizing l with
  | nil => simp at h; subst h; simp
  | cons f fs ih =>
    simp only [List.mapM_cons, Option.bind_eq_bind, Option.bind_eq_some_iff] at h
    obtain ⟨x, hx, r, hr, he⟩ := h
    simp only [Option.pure_def, Option.some.injEq] at he
    subst he
    simp only [Option.map_eq_some_iff] at hx
    obtain ⟨i, hi, rfl⟩ := hx
    have e1 : (do pure (f.offset, ← sizeOf f.type) : Sem (Nat × Nat)).run P w = .ok (f.offset, i.size) w := by simp [sizeOf, typeInfo, hi]
    simp only [List.mapM_cons, Sem.run_bind]
    simp only [Sem.run_bind] at e1
    rw [e1]
    simp only [Result.andThen_ok]
    have e2 := ih hr
    rw [e2]
    rfl

theorem sBuild_of {ps : List (Nat × Value)} {zs cs : List Value} {pl : List (Nat × Nat)} {lp : List (Nat × List Value)} (hz : zeroQ P T = some zs) (hpl : plQ P T = some pl)
    (hp : ps.map (fun p => (p.1, p.2.cells)) = lp.map (fun p => (p.1, p.2.toArray))) (hb : buildF (pl[·]?) zs lp = some cs) : sBuild P T ps w K = K (.agg cs.toArray) w := by
  have hzv : ∃ z, (zeroValue T).run P w = .ok z w ∧ z.cells.toList = zs ∧ (P.info? T).isSome := by
    unfold zeroQ at hz
    cases hi : P.info? T with
    | none => rw [hi] at hz; cases hz
    | some i =>
      rw [hi] at hz
      simp only [Option.map_eq_some_iff] at hz
      obtain ⟨z, hzz, rfl⟩ := hz
      exact ⟨z, by simp [zeroValue, typeInfo, hi, hzz], rfl, rfl⟩
  obtain ⟨z, hzr, rfl, _⟩ := hzv
  have hr : (Instr.build T ps.toArray).run P w = .ok (.agg cs.toArray) w := by
    unfold plQ at hpl
    cases hu : P.underlying T with
    | none => rw [hu] at hpl; cases hpl
    | some d =>
      rw [hu] at hpl
      cases d <;> first | (cases hpl; done) | skip
      case struct fs =>
        have hm := mapM_places (w := w) hpl
        have hm' : (fs.mapM fun f => do pure (f.offset, ← sizeOf f.type) : Sem (Array (Nat × Nat))).run P w = .ok pl.toArray w := by
          rw [Array.mapM_eq_mapM_toList, Sem.run_map, hm]
          rfl
        have hf := fill_build (place := (pl.toArray[·]?)) ps lp z.cells cs hp (by simpa using hb)
        simp only [Instr.build, Sem.run_bind, hzr, Result.andThen_ok, run_underlying hu, hm', hf]
        simp
      case array n e =>
        simp only [Option.map_eq_some_iff] at hpl
        obtain ⟨i, hi, rfl⟩ := hpl
        have hf := fill_build (place := fun j => some (j * i.size, i.size)) ps lp z.cells cs hp (buildF_mono (fun j os hj => by
          simp only [List.getElem?_map, Option.map_eq_some_iff] at hj
          obtain ⟨x, hx, rfl⟩ := hj
          have := (List.getElem?_eq_some_iff.1 hx)
          obtain ⟨hlt, hv⟩ := this
          simp at hv
          subst hv
          rfl) lp _ cs hb)
        simp [Instr.build, hzr, run_underlying hu, sizeOf, typeInfo, hi, hf]
  unfold sBuild after
  rw [hr]

/-! ## Slices: parts of them, and what grows -/
/-- A part of a slice. -/
def slV (v : Value) (k lo hi mx : Nat) : Value := match v with | .slice a _ _ => .slice (if mx = lo then a else a.map (·.add (lo * k))) (hi - lo) (mx - lo) | x => x
def capV (v : Value) : Nat := match v with | .slice _ _ c => c | _ => 0

theorem Sl.part {α : Type} {v : Value} {k : Nat} {enc : α → List Value} {xs : List α} (h : Sl w v k enc xs) {lo hi mx : Nat} (h1 : lo ≤ hi) (h2 : hi ≤ xs.length) (h3 : hi ≤ mx) (h4 : mx ≤ capV v) : Sl w (slV v k lo hi mx) k enc ((xs.take hi).drop lo) := by
  obtain ⟨a, cap, rfl, g1, g2, g3⟩ := h
  have hlen : ((xs.take hi).drop lo).length = hi - lo := by simp; omega
  simp only [capV] at h4
  refine ⟨_, mx - lo, by rw [hlen]; rfl, by omega, by omega, fun i x hx => ?_⟩
  rw [List.getElem?_drop, List.getElem?_take] at hx
  split at hx
  · rename_i hlt
    obtain ⟨b, o, rfl, hc⟩ := g3 _ x hx
    rw [if_neg (by omega)]
    refine ⟨b, o + lo * k, by simp [add_addr], ?_⟩
    rw [Nat.add_assoc, ← Nat.add_mul]
    exact hc
  · cases hx

theorem elQ_elem {e : Nat} (hel : elQ P T = some e) : P.underlying T = some (.slice (P.elem T)) ∧ P.elem T = e := by
  have h := elQ_spec hel
  have : P.elem T = e := by simp [Program.elem, h]
  exact ⟨by rw [this]; exact h, this⟩

section
variable {α : Type} {v : Value} {k : Nat} {enc : α → List Value} {xs : List α} {e : Nat} {kl kh km : IntKind} {zl zh zm : Int} {lo hi mx : Nat}
theorem sSlice_lh (hel : elQ P T = some e) (hk : szQ P e = k) (h0 : 0 < k) (h : Sl w v k enc xs) (hl : zl = lo) (hh : zh = hi) (h1 : lo ≤ hi) (h2 : hi ≤ xs.length) :
    sSlice P T v (some (.int kl zl)) (some (.int kh zh)) none w K = K (slV v k lo hi (capV v)) w := by
  obtain ⟨a, cap, rfl, g1, g2, g3⟩ := h
  obtain ⟨ht, he⟩ := elQ_elem hel
  subst hl hh
  have hr := run_slice_lh (P := P) (w := w) (t := T) (a := a) (len := xs.length) (cap := cap) ht kl kh lo hi (by omega) (by omega) (by omega)
  simp [sSlice, after, Instr.sliceAt, run_underlying ht, hr, he, sizeOf_run hk h0, slV, capV, sliced]
  exact Iff.rfl
theorem sSlice_h (hel : elQ P T = some e) (hk : szQ P e = k) (h0 : 0 < k) (h : Sl w v k enc xs) (hh : zh = hi) (h2 : hi ≤ xs.length) :
    sSlice P T v none (some (.int kh zh)) none w K = K (slV v k 0 hi (capV v)) w := by
  obtain ⟨a, cap, rfl, g1, g2, g3⟩ := h
  obtain ⟨ht, he⟩ := elQ_elem hel
  subst hh
  have hr := run_slice_h (P := P) (w := w) (t := T) (a := a) (len := xs.length) (cap := cap) ht kh hi (by omega) (by omega)
  simp [sSlice, after, Instr.sliceAt, run_underlying ht, hr, he, sizeOf_run hk h0, slV, capV, sliced]
theorem sSlice_l (hel : elQ P T = some e) (hk : szQ P e = k) (h0 : 0 < k) (h : Sl w v k enc xs) (hl : zl = lo) (h2 : lo ≤ xs.length) :
    sSlice P T v (some (.int kl zl)) none none w K = K (slV v k lo xs.length (capV v)) w := by
  obtain ⟨a, cap, rfl, g1, g2, g3⟩ := h
  obtain ⟨ht, he⟩ := elQ_elem hel
  subst hl
  have hr := run_slice_l (P := P) (w := w) (t := T) (a := a) (len := xs.length) (cap := cap) ht kl lo (by omega) (by omega)
  simp [sSlice, after, Instr.sliceAt, run_underlying ht, hr, he, sizeOf_run hk h0, slV, capV, sliced]
  exact Iff.rfl
theorem sSlice_hm (hel : elQ P T = some e) (hk : szQ P e = k) (h0 : 0 < k) (h : Sl w v k enc xs) (hh : zh = hi) (hm : zm = mx) (h3 : hi ≤ mx) (h4 : mx ≤ capV v) :
    sSlice P T v none (some (.int kh zh)) (some (.int km zm)) w K = K (slV v k 0 hi mx) w := by
  obtain ⟨a, cap, rfl, g1, g2, g3⟩ := h
  obtain ⟨ht, he⟩ := elQ_elem hel
  subst hh hm
  simp only [capV] at h4
  have hr := run_slice_hm (P := P) (w := w) (t := T) (a := a) (len := xs.length) (cap := cap) ht kh km hi mx (by omega) (by omega) (by omega)
  simp [sSlice, after, Instr.sliceAt, run_underlying ht, hr, he, sizeOf_run hk h0, slV, sliced]
end

/-- How elements are laid into cells. -/
structure Enc {α : Type} (enc : α → List Value) (k : Nat) : Prop where
  len : ∀ x, (enc x).length = k
  one : ∀ x, ∀ u ∈ enc x, u.oneCell' = true

theorem Enc.length {α : Type} {enc : α → List Value} {k : Nat} (h : Enc enc k) (xs : List α) : (xs.flatMap enc).length = xs.length * k := by
  induction xs with
  | nil => simp
  | cons x xs ih => simp only [List.flatMap_cons, List.length_append, h.len, ih, List.length_cons, Nat.add_mul, Nat.one_mul]; omega
theorem Enc.get {α : Type} {enc : α → List Value} {k : Nat} (h : Enc enc k) : ∀ (xs : List α) (i : Nat) (x : α), xs[i]? = some x → ∀ j u, (enc x)[j]? = some u → (xs.flatMap enc)[i * k + j]? = some u
  | [], i, x, hx, _, _, _ => by simp at hx
  | y :: ys, 0, x, hx, j, u, hu => by
    simp only [List.getElem?_cons_zero, Option.some.injEq] at hx
    subst hx
    have hj : j < (enc y).length := (List.getElem?_eq_some_iff.1 hu).1
    simp only [List.flatMap_cons, Nat.zero_mul, Nat.zero_add]
    rw [List.getElem?_append_left hj]
    exact hu
  | y :: ys, i + 1, x, hx, j, u, hu => by
    simp only [List.getElem?_cons_succ] at hx
    have ih := h.get ys i x hx j u hu
    simp only [List.flatMap_cons]
    rw [List.getElem?_append_right (by rw [h.len, Nat.add_mul]; omega), h.len]
    have : (i + 1) * k + j - k = i * k + j := by rw [Nat.add_mul]; omega
    rw [this]
    exact ih

/-- A slice of the call's own (nothing else writes into its block), with what it holds. -/
def Own {α : Type} (w : World) (base e k : Nat) (v : Value) (enc : α → List Value) (xs : List α) : Prop := w.ownsRow base e k v xs.length (xs.flatMap enc)
theorem Own.nil {α : Type} (w : World) (base e k : Nat) (enc : α → List Value) : Own w base e k (.slice none 0 0) enc [] := World.ownsRow_nil w base e k
theorem Own.sl {α : Type} {base e k : Nat} {v : Value} {enc : α → List Value} {xs : List α} (h : Own w base e k v enc xs) (he : Enc enc k) : Sl w v k enc xs := by
  obtain ⟨hl, hv⟩ := h
  rcases hv with ⟨rfl, h0⟩ | ⟨g, cap, cur, rfl, hb, hg, hnc, hcm, hcs', ht⟩
  · have : xs = [] := List.eq_nil_of_length_eq_zero h0
    subst this
    exact Sl.nil w k enc
  · refine ⟨_, cap, rfl, hnc, hcm, fun i x hx => ⟨g, 0, rfl, fun j u hu => ?_⟩⟩
    have hget := he.get xs i x hx j u hu
    rw [← ht, List.getElem?_take] at hget
    split at hget
    · simp only [World.cell?, hg]
      simpa [Nat.add_assoc] using hget
    · cases hget
theorem Own.wr {α : Type} {base e k : Nat} {v : Value} {enc : α → List Value} {xs : List α} {w' : World} {row : Option Nat} (h : Own w base e k v enc xs) (hg : w.grownBy w' row) (hne : v.ownBlock = none ∨ v.ownBlock ≠ row) : Own w' base e k v enc xs :=
  World.ownsRow.kept h hg hne
theorem Own.ext {α : Type} {base e k : Nat} {v : Value} {enc : α → List Value} {xs : List α} {w' : World} (h : Own w base e k v enc xs) (hx : Ext w w') : Own w' base e k v enc xs := by
  cases hv : v.ownBlock with
  | none => exact h.wr (grown_of_ext hx none) (.inl hv)
  | some g => exact h.wr (grown_of_ext hx none) (.inr (by rw [hv]; simp))
theorem Own.lt {α : Type} {base e k : Nat} {v : Value} {enc : α → List Value} {xs : List α} (h : Own w base e k v enc xs) : ∀ g, v.ownBlock = some g → base ≤ g ∧ g < w.heap.size := World.ownsRow.lt h

theorem zero_info {e : Nat} {ze : List Value} (hz : zeroQ P e = some ze) : ∃ i z, P.info? e = some i ∧ i.zero = some z ∧ z.cells.toList = ze ∧ i.size = szQ P e ∧ i.bytes = byQ P e := by
  unfold zeroQ at hz
  cases hi : P.info? e with
  | none => rw [hi] at hz; cases hz
  | some i =>
    rw [hi] at hz
    simp only [Option.map_eq_some_iff] at hz
    obtain ⟨z, hzz, rfl⟩ := hz
    exact ⟨i, z, rfl, hzz, rfl, by simp [szQ, hi], by simp [byQ, hi]⟩

/-- 'append(v, x...)', v of the call's own. -/
theorem sAppend_own {α : Type} {base e k : Nat} {v x : Value} {enc : α → List Value} {xs ys : List α} {ze : List Value} {ty : Nat} (hel : elQ P T = some e) (hk : szQ P e = k) (h0 : 0 < k) (hz : zeroQ P e = some ze) (hzl : ze.length = k) (he : Enc enc k)
    (hown : Own w base e k v enc xs) (hbase : base ≤ w.heap.size) (hx : Sl w x k enc ys) (h63 : xs.length + ys.length ≤ maxLen) (hby : (xs.length + ys.length) * byQ P e ≤ 140737488355328)
    (h : ∀ v' w', Own w' base e k v' enc (xs ++ ys) → w.grownBy w' v.ownBlock → K v' w') : sBuiltin P .append [T, T] ty [v, x] w K := by
  obtain ⟨i, z, hi, hzz, hzc, hsz, hbq⟩ := zero_info hz
  obtain ⟨a, cap, rfl, g1, g2, g3⟩ := hx
  have hzs : z.cells.size = k := by rw [← Array.length_toList, hzc, hzl]
  have happ : (xs ++ ys).flatMap enc = xs.flatMap enc ++ ys.flatMap enc := by simp
  have hlen : (xs ++ ys).length = xs.length + ys.length := by simp
  cases a with
  | none =>
    have hys : ys = [] := by
      cases ys with
      | nil => rfl
      | cons y ys => obtain ⟨b, o, hb, _⟩ := g3 0 y rfl; cases hb
    subst hys
    have hr : ∃ v', (Builtin.append_ #[T, T] ty #[v, .slice none 0 cap]).run P w = .ok v' w ∧ v' = v := by
      rcases hown.2 with ⟨rfl, hn⟩ | ⟨g, cap', cur, rfl, hb, hg, hnc, hcm, hcs, ht⟩
      · refine ⟨_, ?_, rfl⟩
        simp [Builtin.append_, run_underlying (elQ_spec hel), sizeOf, typeInfo, hi, Builtin.lenOf, Builtin.firstCells]
      · refine ⟨_, ?_, rfl⟩
        simp [Builtin.append_, run_underlying (elQ_spec hel), sizeOf, typeInfo, hi, Builtin.lenOf, Builtin.firstCells, hnc, storeCells]
    obtain ⟨v', hr, rfl⟩ := hr
    have := h v' w (by simpa using hown) ⟨rfl, rfl, rfl, Nat.le_refl _, fun _ _ _ => rfl⟩
    unfold sBuiltin after
    simp only [List.length_nil] at hr ⊢
    rw [hr]
    exact this
  | some ad =>
    have hnews : ∀ j u, (ys.flatMap enc)[j]? = some u → w.cell? (ad.add j) = some u := by
      intro j u hu
      have hj : j < ys.length * k := by
        have := (List.getElem?_eq_some_iff.1 hu).1
        rwa [he.length] at this
      have hq : j / k < ys.length := (Nat.div_lt_iff_lt_mul h0).2 hj
      obtain ⟨y, hy⟩ : ∃ y, ys[j / k]? = some y := ⟨ys[j / k], List.getElem?_eq_getElem hq⟩
      obtain ⟨b, o, hb, hc⟩ := g3 _ y hy
      cases hb
      have hmod : j % k < (enc y).length := by rw [he.len]; exact Nat.mod_lt _ h0
      obtain ⟨u', hu'⟩ : ∃ u', (enc y)[j % k]? = some u' := ⟨(enc y)[j % k], List.getElem?_eq_getElem hmod⟩
      have hget := he.get ys _ y hy _ u' hu'
      rw [show j / k * k + j % k = j from by rw [Nat.mul_comm]; exact Nat.div_add_mod j k] at hget
      rw [hu] at hget
      cases hget
      have := hc _ _ hu'
      rw [add_addr]
      rw [Nat.add_assoc, show j / k * k + j % k = j from by rw [Nat.mul_comm]; exact Nat.div_add_mod j k] at this
      exact this
    obtain ⟨v', w', hr, h2, h3, _⟩ := run_append_own (P := P) w base T ty e i z k (byQ P e) (elQ_spec hel) hi hzz (by rw [hsz, hk]) hbq hzs h0 v xs.length (xs.flatMap enc) hown ad ys.length cap (ys.flatMap enc) (he.length ys) hnews
      (fun u hu => by obtain ⟨y, _, hy⟩ := List.mem_flatMap.1 hu; exact he.one y u hy) h63 hby hbase
    have := h v' w' (by unfold Own; rw [hlen, happ]; exact h2) h3
    unfold sBuiltin after
    dsimp only
    rw [hr]
    exact this

/-- A slice literal. -/
theorem sBuildSlice_new {e k n : Nat} {ps : List (Nat × Value)} {ze cs : List Value} {lp : List (Nat × List Value)} (hel : elQ P T = some e) (hk : szQ P e = k) (h0 : 0 < n * k) (hz : zeroQ P e = some ze) (hlim : n * k ≤ 16777216)
    (hp : ps.map (fun p => (p.1, p.2.cells)) = lp.map (fun p => (p.1, p.2.toArray))) (hb : buildF (fun i => some (i * k, k)) ((List.range (n * k)).map fun j => ze.toArray[j % ze.length]!) lp = some cs)
    (h : ∀ b w', b = w.heap.size → w'.heap.size = b + 1 → Ext w w' → Blk w' b cs → K (.slice (some ⟨b, 0, none⟩) n n) w') : sBuildSlice P T n ps w K := by
  obtain ⟨i, z, hi, hzz, hzc, hsz, hbq⟩ := zero_info hz
  have hik : i.size = k := by rw [hsz, hk]
  have hf := fill_build (place := fun i => some (i * k, k)) ps lp ((Array.range (n * k)).map fun j => z.cells[j % z.cells.size]!) cs hp (by
    rw [← hb]; congr 1; rw [← hzc]; simp)
  have hr : (Instr.buildSlice T n ps.toArray).run P w = .ok (.slice (some ⟨w.heap.size, 0, none⟩) n n) (w.alloc (.cells cs.toArray e)) := by
    have hne : n * k ≠ 0 := by omega
    have hng : ¬ (16777216 < n * k) := by omega
    simp [Instr.buildSlice, run_underlying (elQ_spec hel), sizeOf, typeInfo, hi, hik, zeroValue, hzz, newRow, hne, hng, hf]
  unfold sBuildSlice after
  rw [hr]
  exact h _ _ rfl (by simp) (Ext.new w _) (Blk.new w cs e)

/-- A block that is known whole reads as a slice. -/
theorem Blk.sl {α : Type} {b k : Nat} {enc : α → List Value} {xs : List α} (h : Blk w b (xs.flatMap enc)) (he : Enc enc k) (hm : xs.length ≤ maxLen) : Sl w (.slice (some ⟨b, 0, none⟩) xs.length xs.length) k enc xs := by
  refine ⟨_, _, rfl, Nat.le_refl _, hm, fun i x hx => ⟨b, 0, rfl, fun j u hu => ?_⟩⟩
  have := h.cells _ _ (he.get xs i x hx j u hu)
  rw [Nat.zero_add] at this ⊢
  exact this

theorem Sl.shape {α : Type} {v : Value} {k : Nat} {enc : α → List Value} {xs : List α} (h : Sl w v k enc xs) : v.cells = [v].toArray ∧ v.oneCell' = true := by
  obtain ⟨a, cap, rfl, _⟩ := h; exact ⟨rfl, rfl⟩
theorem Own.shape {α : Type} {base e k : Nat} {v : Value} {enc : α → List Value} {xs : List α} (h : Own w base e k v enc xs) : v.cells = [v].toArray ∧ v.oneCell' = true := by
  rcases h.2 with ⟨rfl, _⟩ | ⟨g, cap, cur, rfl, _⟩ <;> exact ⟨rfl, rfl⟩
theorem Own.mono {α : Type} {base base' e k : Nat} {v : Value} {enc : α → List Value} {xs : List α} (h : Own w base e k v enc xs) (hb : base' ≤ base) : Own w base' e k v enc xs := by
  refine ⟨h.1, ?_⟩
  rcases h.2 with h2 | ⟨g, cap, cur, h1, h2, h3⟩
  · exact .inl h2
  · exact .inr ⟨g, cap, cur, h1, Nat.le_trans hb h2, h3⟩

/-- The type is a pointer's. -/
def ptQ (P : Program) (T : TypeId) : Bool := match P.underlying T with | some (.pointer _) => true | _ => false
theorem ptQ_spec (hT : ptQ P T = true) : ∃ e, P.underlying T = some (.pointer e) := by
  unfold ptQ at hT
  cases hu : P.underlying T with
  | none => rw [hu] at hT; cases hT
  | some d => rw [hu] at hT; cases d <;> first | (cases hT; done) | exact ⟨_, rfl⟩
theorem run_equalIn_ptr {p : Option Addr} (hT : ptQ P T = true) (d : Nat) : (Op.equalIn (d + 1) T (.pointer p) (.pointer none)).run P w = .ok p.isNone w := by
  obtain ⟨e, hu⟩ := ptQ_spec hT
  unfold Op.equalIn
  rw [Sem.run_bind, run_underlying hu]
  cases p <;> rfl
theorem sBin_ptr_eq {cx cy : Bool} {p : Option Addr} (hT : ptQ P T = true) : sBin P .eql T cx cy (.pointer p) (.pointer none) w K = K (.bool p.isNone) w := by
  have h := run_equalIn_ptr (w := w) (p := p) hT 9999
  have hr : (do eqGuard .eql T (bif cx then .const (.pointer p) else .tmp 0) (bif cy then .const (.pointer none) else .tmp 0) (.pointer p) (.pointer none); binOp .eql T (.pointer p) (.pointer none) : Sem Value).run P w = .ok (.bool p.isNone) w := by
    have hg : eqGuard .eql T (bif cx then .const (.pointer p) else .tmp 0) (bif cy then .const (.pointer none) else .tmp 0) (.pointer p) (.pointer none) = pure () := rfl
    have hb : binOp .eql T (.pointer p) (.pointer none) = (do pure (.bool (← Op.equal T (.pointer p) (.pointer none)))) := rfl
    rw [hg, hb, Sem.run_bind, Sem.run_pure, Result.andThen_ok, Sem.run_bind]
    unfold Op.equal Op.maxDepth
    rw [h]; rfl
  unfold sBin after
  rw [hr]
theorem sBin_ptr_ne {cx cy : Bool} {p : Option Addr} (hT : ptQ P T = true) : sBin P .neq T cx cy (.pointer p) (.pointer none) w K = K (.bool p.isSome) w := by
  have h := run_equalIn_ptr (w := w) (p := p) hT 9999
  have hr : (do eqGuard .neq T (bif cx then .const (.pointer p) else .tmp 0) (bif cy then .const (.pointer none) else .tmp 0) (.pointer p) (.pointer none); binOp .neq T (.pointer p) (.pointer none) : Sem Value).run P w = .ok (.bool p.isSome) w := by
    have hg : eqGuard .neq T (bif cx then .const (.pointer p) else .tmp 0) (bif cy then .const (.pointer none) else .tmp 0) (.pointer p) (.pointer none) = pure () := rfl
    have hb : binOp .neq T (.pointer p) (.pointer none) = (do pure (.bool (!(← Op.equal T (.pointer p) (.pointer none))))) := rfl
    rw [hg, hb, Sem.run_bind, Sem.run_pure, Result.andThen_ok, Sem.run_bind]
    unfold Op.equal Op.maxDepth
    rw [h]
    cases p <;> rfl
  unfold sBin after
  rw [hr]

/-- Parts of an array value. -/
theorem sIdx_agg {cs : Array Value} {n e k i : Nat} {kd : IntKind} {z : Int} (har : arQ P T = some (n, e)) (hag : aggN P e = some k) (hi : i < n) (hz : z = i) : sIdx P T (.agg cs) (.int kd z) w K = K (.agg (cs.extract (i * k) (i * k + k))) w := by
  unfold arQ at har
  cases hu : P.underlying T with
  | none => rw [hu] at har; cases har
  | some d =>
    rw [hu] at har
    cases d <;> first | (cases har; done) | skip
    rename_i n' e'
    cases har
    obtain ⟨h1, h2⟩ := run_isAgg_agg (w := w) hag
    subst hz
    simp [sIdx, after, Instr.index, asIntOf, run_underlying hu, hi, h1, h2, part]
theorem sIdx_cell {cs : Array Value} {n e i : Nat} {kd : IntKind} {z : Int} {v : Value} (har : arQ P T = some (n, e)) (hag : cellQ P e = true) (hs : szQ P e = 1) (hi : i < n) (hz : z = i) (hv : cs[i]? = some v) : sIdx P T (.agg cs) (.int kd z) w K = K v w := by
  unfold arQ at har
  cases hu : P.underlying T with
  | none => rw [hu] at har; cases har
  | some d =>
    rw [hu] at har
    cases d <;> first | (cases har; done) | skip
    rename_i n' e'
    cases har
    subst hz
    simp [sIdx, after, Instr.index, asIntOf, run_underlying hu, hi, run_isAgg_cell hag, sizeOf_run hs (by omega), part, hv]
theorem Enc.extract {α : Type} {enc : α → List Value} {k : Nat} (h : Enc enc k) {xs : List α} {i : Nat} {x : α} (hx : xs[i]? = some x) : (xs.flatMap enc).toArray.extract (i * k) (i * k + k) = (enc x).toArray := by
  apply Array.ext'
  simp only [Array.toList_extract, List.extract_eq_take_drop]
  apply List.ext_getElem?
  intro j
  have hi : i < xs.length := (List.getElem?_eq_some_iff.1 hx).1
  rw [show i * k + k - i * k = k from by omega, List.getElem?_take]
  split
  · rename_i hj
    rw [List.getElem?_drop]
    obtain ⟨u, hu⟩ : ∃ u, (enc x)[j]? = some u := ⟨_, List.getElem?_eq_getElem (by rw [h.len]; exact hj)⟩
    rw [h.get xs i x hx j u hu, hu]
  · rename_i hj
    exact (List.getElem?_eq_none (by rw [h.len]; omega)).symm
end

section
variable {P : Program} {T : TypeId} {w0 w : World} {k : Value → Prop}
/-- An operation that gives one value in every world that has grown. -/
theorem stillS_eq {E : World → K1 → Prop} {v : Value} (h : ∀ w1, Ext w0 w1 → ∀ K : K1, E w1 K = K v w1) (he : Ext w0 w) : stillS (Ext w0) w E k = k v := by
  unfold stillS
  apply propext
  constructor
  · rintro ⟨u, h1, _, h3⟩; rw [h w he] at h1; obtain ⟨rfl, _⟩ := h1; exact h3
  · intro h3; exact ⟨v, by rw [h w he]; exact ⟨rfl, rfl⟩, fun w1 h1 => by rw [h w1 h1]; exact ⟨rfl, rfl⟩, h3⟩
theorem stillS_cell {a : Addr} {v : Value} (hT : cellQ P T = true) (h : w0.cell? a = some v) (he : Ext w0 w) : stillS (Ext w0) w (fun w k => sLoad P T (.pointer (some a)) w k) k = k v :=
  stillS_eq (E := fun w k => sLoad P T (.pointer (some a)) w k) (fun _ h1 _ => sLoad_cell hT (h1.cell h)) he
theorem stillS_agg {b o n : Nat} {cs : List Value} (hT : aggN P T = some n) (h : Cells w0 b o cs) (hn : cs.length = n) (he : Ext w0 w) : stillS (Ext w0) w (fun w k => sLoad P T (.pointer (some ⟨b, o, none⟩)) w k) k = k (.agg cs.toArray) :=
  stillS_eq (E := fun w k => sLoad P T (.pointer (some ⟨b, o, none⟩)) w k) (fun _ h1 _ => sLoad_agg hT (h.ext h1) hn) he
theorem SubS.ext {w0 w : World} {A : (World → Prop) → Prop} (e : Ext w0 w) (h : A (Ext w)) : SubS (Ext w0) w A := SubS.intro (Ext w) (fun _ h1 => e.trans h1) (Ext.refl w) h
theorem DrawS.ext {A : (World → Prop) → World → Prop} (h : A (Ext w) w.drew) : DrawS w A := DrawS.intro (Ext w) (Ext.refl w).drew h
end
end Go.Lift
