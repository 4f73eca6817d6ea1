/- The frames of a function's run taken away, once for all programs: a predicate 'codeS' on code, by recursion, with slots as a list of pairs; if it holds, the code's own 'wp' holds. Conditions: a hint tree that 'okC' accepts. -/
import Derived.WalkKit
import Derived.Still
namespace Go.Lift
open Go

/-- A frame: what the slots hold, the newest first. -/
abbrev Fr := List (Nat × Value)
def gv : Fr → Nat → Value
  | [], _ => undef
  | (d, v) :: r, t => bif Nat.beq d t then v else gv r t
def put (fr : Fr) (dst : Option Nat) (v : Value) : Fr :=
  match dst with
  | some d => (d, v) :: fr
  | none => fr
def ev (fr : Fr) : Operand → Value
  | .tmp t => gv fr t
  | .const v => v
  | .global g => .pointer (some ⟨g, 0, none⟩)
  | .func f => .func (.func f) #[] #[]

theorem gv_cons (d : Nat) (v : Value) (r : Fr) (t : Nat) : gv ((d, v) :: r) t = if d = t then v else gv r t := by
  by_cases h : d = t
  · subst h; simp [gv]
  · have hb : Nat.beq d t = false := by
      cases hq : Nat.beq d t with
      | true => exact absurd (Nat.eq_of_beq_eq_true hq) h
      | false => rfl
    simp [gv, h, hb]

/-- After a computation: the outcome must be a value. -/
def after (P : Program) {α : Type} (s : Sem α) (w : World) (K : α → World → Prop) : Prop :=
  match s.run P w with
  | .ok v w' => K v w'
  | .halt _ _ => False

/-- A call that returns. -/
def CallK (P : Program) (f : FuncId) (args : List Value) (w : World) (K : Value → World → Prop) : Prop :=
  Calls P f args.toArray w fun e w' => match e with | .returned v => K v w' | _ => False

theorem CallK.mono {P : Program} {f : FuncId} {args : List Value} {w : World} {K K' : Value → World → Prop} (h : CallK P f args w K) (hk : ∀ v w', K v w' → K' v w') : CallK P f args w K' :=
  Calls.mono h fun e w' q => by cases e <;> first | exact hk _ _ q | exact q

abbrev K1 := Value → World → Prop

/-- What is asked of the outcome of an operation. -/
def outN (P : Program) (K : K1) : Result Next → Prop
  | .ok (.value v) w' => K v w'
  | .ok .skip w' => K undef w'
  | .ok (.enter f args) w' => CallK P f args.toList w' K
  | _ => False
/-- What an operation does, the general form. -/
def opS (P : Program) (o : Oper) (ρ : Operand → Value) (w : World) (K : K1) : Prop := outN P K ((execOp ρ o).run P w)

def sAlloc (P : Program) (e : TypeId) (w : World) (K : K1) : Prop := after P (Instr.alloc e true (.tuple #[])) w K
def sBox (P : Program) (e : TypeId) (x : Value) (w : World) (K : K1) : Prop := after P (Instr.box e x) w K
def sBuild (P : Program) (t : TypeId) (ps : List (Nat × Value)) (w : World) (K : K1) : Prop := after P (Instr.build t ps.toArray) w K
def sBuildSlice (P : Program) (t : TypeId) (n : Nat) (ps : List (Nat × Value)) (w : World) (K : K1) : Prop := after P (Instr.buildSlice t n ps.toArray) w K
def sLoad (P : Program) (t : TypeId) (p : Value) (w : World) (K : K1) : Prop := after P (Instr.loadAt t p) w K
def sStore (P : Program) (t : TypeId) (p x : Value) (w : World) (K : World → Prop) : Prop := after P (Instr.storeAt t p x) w fun _ w' => K w'
def sNil (x : Value) (w : World) (K : K1) : Prop :=
  match x with
  | .pointer (some a) => K (.pointer (some a)) w
  | .iface t v => K (.iface t v) w
  | .func (.func f) a b => K (.func (.func f) a b) w
  | _ => False
def sBin (P : Program) (op : BinOp) (t : TypeId) (cx cy : Bool) (x y : Value) (w : World) (K : K1) : Prop :=
  after P (do eqGuard op t (bif cx then .const x else .tmp 0) (bif cy then .const y else .tmp 0) x y; binOp op t x y) w K
def sUn (P : Program) (op : UnOp) (x : Value) (w : World) (K : K1) : Prop := after P (Op.unary op x) w K
def sConv (P : Program) (s d : TypeId) (x : Value) (w : World) (K : K1) : Prop := after P (convert s d x) w K
def sIface (P : Program) (t : TypeId) (x : Value) (w : World) (K : K1) : Prop := after P (Instr.makeInterface t x) w K
def sFunc (P : Program) (fn : Fn) (a b : List Value) (w : World) (K : K1) : Prop := after P (Instr.makeFunc fn a.toArray b.toArray) w K
def sMake (P : Program) (t : TypeId) (l c : Value) (w : World) (K : K1) : Prop := after P (Instr.makeSlice t l c) w K
def sSlice (P : Program) (t : TypeId) (x : Value) (lo hi mx : Option Value) (w : World) (K : K1) : Prop := after P (Instr.sliceAt t x lo hi mx) w K
def sFldA (P : Program) (t : TypeId) (x : Value) (f : Nat) (w : World) (K : K1) : Prop := after P (Instr.fieldAt t x f) w K
def sFld (P : Program) (t : TypeId) (x : Value) (f : Nat) (w : World) (K : K1) : Prop := after P (Instr.field t x f) w K
def sIdxA (P : Program) (t : TypeId) (x i : Value) (w : World) (K : K1) : Prop := after P (Instr.indexAt t x i) w K
def sIdx (P : Program) (t : TypeId) (x i : Value) (w : World) (K : K1) : Prop := after P (Instr.index t x i) w K
def sRange (P : Program) (t : TypeId) (x : Value) (w : World) (K : K1) : Prop := after P (Instr.range t x) w K
def sNext (P : Program) (it : Value) (b : Bool) (ty : TypeId) (w : World) (K : K1) : Prop := after P (Instr.next it b ty) w K
def sAssert (P : Program) (x : Value) (t a : TypeId) (ok : Bool) (w : World) (K : K1) : Prop := after P (Instr.typeAssert x t a ok) w K
def sExtract (x : Value) (i : Nat) (w : World) (K : K1) : Prop :=
  match x with
  | .tuple vs => match vs.toList[i]? with | some v => K v w | none => False
  | _ => False
def sCall (P : Program) (f : FuncId) (args : List Value) (w : World) (K : K1) : Prop :=
  match (callFunc f args.toArray).run P w with
  | .ok (.enter f args) w' => CallK P f args.toList w' K
  | .ok (.value v) w' => K v w'
  | _ => False
def sDyn (P : Program) (x : Value) (args : List Value) (w : World) (K : K1) : Prop :=
  match x with
  | .func (.func f) first captured => sCall P f (first.toList ++ args ++ captured.toList) w K
  | _ => False
def sBuiltin (P : Program) (b : Builtin) (ts : List TypeId) (ty : TypeId) (args : List Value) (w : World) (K : K1) : Prop :=
  match b with
  | .append => after P (Builtin.append_ ts.toArray ty args.toArray) w K
  | .cap => after P (Builtin.cap_ ts.toArray ty args.toArray) w K
  | .copy => after P (Builtin.copy_ ts.toArray ty args.toArray) w K
  | .len => after P (Builtin.len_ ts.toArray ty args.toArray) w K
  | .max => after P (Builtin.max_ ts.toArray ty args.toArray) w K
  | .min => after P (Builtin.min_ ts.toArray ty args.toArray) w K
  | _ => False

/- 'let _ := ..': these are unfolded ahead of all others. -/
def sPick (c a b : Value) (w : World) (K : K1) : Prop :=
  let _ := (@sBuiltin, @sDyn, @sBin, @sConv, @sSlice, @sNext, @sAssert)
  match c with
  | .bool t => K (bif t then a else b) w
  | _ => False
def sIf (c : Value) (A B : Prop) : Prop :=
  let _ := @sPick
  match c with
  | .bool t => bif t then A else B
  | _ => False
/-- A value that is a known bool. -/
def isB (b : Bool) (v : Value) (A : Prop) : Prop :=
  let _ := @sPick
  match v with
  | .bool c => bif c then (bif b then A else False) else (bif b then False else A)
  | _ => False

def isC : Operand → Bool
  | .const _ => true
  | _ => false

/-- An operation, by its kind. -/
def opX (P : Program) (o : Oper) (ρ : Operand → Value) (w : World) (K : K1) : Prop :=
  match o.op with
  | .move x => K (ρ x) w
  | .assign x => K (ρ x) w
  | .pick c a b => sPick (ρ c) (ρ a) (ρ b) w K
  | .alloc e => sAlloc P e w K
  | .box e x => sBox P e (ρ x) w K
  | .build t ps => sBuild P t (ps.toList.map fun p => (p.1, ρ p.2)) w K
  | .buildSlice t n ps => sBuildSlice P t n (ps.toList.map fun p => (p.1, ρ p.2)) w K
  | .load t a => sLoad P t (ρ a) w K
  | .store t a x => sStore P t (ρ a) (ρ x) w (K undef)
  | .nilCheck x => sNil (ρ x) w K
  | .binOp op t x y _ => sBin P op t (isC x) (isC y) (ρ x) (ρ y) w K
  | .unOp op _ x => sUn P op (ρ x) w K
  | .convert s d x => sConv P s d (ρ x) w K
  | .makeInterface t x => sIface P t (ρ x) w K
  | .makeFunc fn a b => sFunc P fn (a.toList.map ρ) (b.toList.map ρ) w K
  | .makeSlice t l c => sMake P t (ρ l) (ρ c) w K
  | .slice t x lo hi mx => sSlice P t (ρ x) (lo.map ρ) (hi.map ρ) (mx.map ρ) w K
  | .fieldAddr t x f => sFldA P t (ρ x) f w K
  | .field t x f => sFld P t (ρ x) f w K
  | .indexAddr t x i => sIdxA P t (ρ x) (ρ i) w K
  | .index t x i => sIdx P t (ρ x) (ρ i) w K
  | .range t x => sRange P t (ρ x) w K
  | .next it b => sNext P (ρ it) b o.type w K
  | .typeAssert x t a ok => sAssert P (ρ x) t a ok w K
  | .extract t i => sExtract (ρ t) i w K
  | .call c =>
    match c.callee with
    | .value (.func f) => sCall P f (c.args.toList.map ρ) w K
    | .value x => sDyn P (ρ x) (c.args.toList.map ρ) w K
    | .builtin b => sBuiltin P b c.argTypes.toList o.type (c.args.toList.map ρ) w K
    | .invoke _ _ => False
  | _ => False

theorem after_andThen {P : Program} {s : Sem Value} {w : World} {K : K1} (h : after P s w K) :
    outN P K ((s.run P w).andThen fun a w' => .ok (.value a) w') := by
  unfold after at h
  cases hr : s.run P w with
  | ok v w' => rw [hr] at h; exact h
  | halt x w' => rw [hr] at h; exact h.elim
theorem after_bind_value {P : Program} {s : Sem Value} {w : World} {K : K1} (h : after P s w K) :
    outN P K ((do pure (Next.value (← s)) : Sem Next).run P w) := by
  simp only [Sem.run_bind, Sem.run_pure]
  exact after_andThen h

theorem opX_sound {P : Program} {o : Oper} {fr : Fr} {w : World} {K : K1} (h : opX P o (ev fr) w K) : opS P o (ev fr) w K := by
  generalize hρ : ev fr = ρ at h ⊢
  obtain ⟨dst, op, type, pos, aft, guard⟩ := o
  cases op <;> unfold opX at h <;> unfold opS execOp <;> dsimp only at h ⊢ <;> try exact h.elim
  case move x => simpa [outN] using h
  case assign x => simpa [outN] using h
  case pick c a b =>
    unfold sPick at h
    split at h
    · rename_i t hc; rw [hc]; cases t <;> simpa [asBool, outN] using h
    · exact h.elim
  case store t a x =>
    unfold sStore after at h
    simp only [Sem.run_bind]
    cases hr : (Instr.storeAt t (ρ a) (ρ x)).run P w with
    | ok v w' => rw [hr] at h; exact h
    | halt x w' => rw [hr] at h; exact h.elim
  case nilCheck x =>
    unfold sNil at h
    split at h
    · rename_i hx; rw [hx]; exact h
    · rename_i hx; rw [hx]; exact h
    · rename_i hx; rw [hx]; exact h
    · exact h.elim
  case extract t i =>
    unfold sExtract at h
    split at h
    · rename_i vs ht
      split at h
      · rename_i v hv
        rw [ht]
        have hv' : vs[i]? = some v := by simpa using hv
        simpa [Instr.extract, hv', outN] using h
      · exact h.elim
    · exact h.elim
  case binOp op t x y ty =>
    unfold sBin at h
    refine after_bind_value ?_
    have e2 : eqGuard op t (bif isC x then .const (ρ x) else .tmp 0) (bif isC y then .const (ρ y) else .tmp 0) (ρ x) (ρ y) = eqGuard op t x y (ρ x) (ρ y) := by
      cases x <;> cases y <;> rfl
    rw [e2] at h
    exact h
  case call c =>
    obtain ⟨callee, args, ats⟩ := c
    cases callee with
    | invoke r m => exact h.elim
    | builtin b =>
      dsimp only at h
      have harg : (args.toList.map ρ).toArray = args.map ρ := by apply Array.ext'; simp
      have hat : ats.toList.toArray = ats := by apply Array.ext'; simp
      unfold sBuiltin at h
      rw [harg, hat] at h
      cases b <;> first | exact h.elim | (simp only [resolve, invoke, builtin, Sem.run_bind, Sem.run_pure, Result.andThen_ok]; exact after_andThen h)
    | value x =>
      have key : ∀ v, sDyn P v (args.toList.map ρ) w K → ρ x = v → opS P ⟨dst, .call ⟨.value x, args, ats⟩, type, pos, aft, guard⟩ ρ w K := by
        intro v hd hv
        unfold sDyn at hd
        split at hd
        · rename_i f first captured
          unfold sCall at hd
          unfold opS execOp
          simp only [resolve, hv, Deferred.ofValue]
          simp only [Sem.run_bind, Sem.run_pure, Result.andThen_ok, invoke]
          have ha : (first.toList ++ args.toList.map ρ ++ captured.toList).toArray = first ++ args.map ρ ++ captured := by
            apply Array.ext'; simp
          rw [ha] at hd
          split at hd
          · rename_i hr; rw [hr]; exact hd
          · rename_i hr; rw [hr]; exact hd
          · exact hd.elim
        · exact hd.elim
      cases x <;> try exact key _ h rfl
      rename_i f
      refine key (.func (.func f) #[] #[]) ?_ (by rw [← hρ]; rfl)
      unfold sDyn
      simpa using h
  all_goals
    refine after_bind_value ?_
    first
      | exact h
      | (have hh := h; unfold sBuild at hh; rw [show (List.map (fun p : Nat × Operand => (p.1, ρ p.2)) _).toArray = Array.map (fun p : Nat × Operand => (p.1, ρ p.2)) _ from by apply Array.ext'; simp; rfl] at hh; exact hh)
      | (have hh := h; unfold sBuildSlice at hh; rw [show (List.map (fun p : Nat × Operand => (p.1, ρ p.2)) _).toArray = Array.map (fun p : Nat × Operand => (p.1, ρ p.2)) _ from by apply Array.ext'; simp; rfl] at hh; exact hh)
      | (have hh := h; unfold sFunc at hh; rw [show ∀ l : Array Operand, (List.map ρ l.toList).toArray = Array.map ρ l from fun l => by apply Array.ext'; simp, show ∀ l : Array Operand, (List.map ρ l.toList).toArray = Array.map ρ l from fun l => by apply Array.ext'; simp] at hh; exact hh)

/-! ## Regions -/

/-- The order in which a region's operations are taken: one operation, or both of two ways. -/
inductive Sch where
  | done
  | op (k : Nat) (s : Sch)
  | skip (k : Nat) (s : Sch)
  | test (j : Nat) (a b : Sch)
  | know (j : Nat) (b : Bool) (s : Sch)
  | alt (i : Nat) (a : Sch) (j : Nat) (b : Sch)
  | fin (k : Nat) (s : Sch)
  | opc (k : Nat) (s : Sch)
/-- How many operations a way has. -/
def Sch.len : Sch → Nat
  | .done => 0
  | .op _ s => s.len + 1
  | .skip _ s => s.len + 1
  | .test _ a _ => a.len
  | .know _ _ s => s.len
  | .alt _ a _ _ => a.len + 1
  | .fin _ s => s.len + 1
  | .opc _ s => s.len + 1
/-- Nothing is left but operations that need no class. -/
def Sch.finS : Sch → Bool
  | .done => true
  | .fin _ s => s.finS
  | .test _ a b => a.finS && b.finS
  | .know _ _ s => s.finS
  | _ => false
def Sch.fins : Sch → List Nat
  | .done => []
  | .op _ s => s.fins
  | .skip _ s => s.fins
  | .know _ _ s => s.fins
  | .test _ a b => a.fins ++ b.fins
  | .alt _ a _ b => a.fins ++ b.fins
  | .fin k s => k :: s.fins
  | .opc _ s => s.fins
/-- The hint tree of a piece of code. -/
inductive SC where
  | nop
  | reg (s : Sch)
  | draw (s : Sch)
  | seq (a b : SC)
  | join (cs rs : List Nat) (a b : SC)
  | cond (a b : SC)
  | sub (a : SC)
  | loop (cs rs : List Nat) (a : SC)

/-- The slot that an operation writes. -/
def slotOf (ops : Array Oper) (j : Nat) : Option Nat := (ops[j]?).bind (·.dst)

def opsS (P : Program) (ops : Array Oper) : Sch → Fr → World → (Fr → World → Prop) → Prop
  | .done, fr, w, K => K fr w
  | .op k s, fr, w, K => match ops[k]? with | none => False | some o => opX P o (ev fr) w fun v w => opsS P ops s (put fr o.dst v) w K
  | .skip k s, fr, w, K => match ops[k]? with | none => False | some o => opsS P ops s (put fr o.dst undef) w K
  | .test j a b, fr, w, K => match slotOf ops j with | none => False | some d => sIf (gv fr d) (opsS P ops a ((d, .bool true) :: fr) w K) (opsS P ops b ((d, .bool false) :: fr) w K)
  | .know j b s, fr, w, K => match slotOf ops j with | none => False | some d => isB b (gv fr d) (opsS P ops s fr w K)
  | .alt _ _ _ _, _, _, _ => False
  | .fin _ _, _, _, _ => False
  | .opc _ _, _, _, _ => False

/-- An operation that yields one value in every world of a class. -/
def stillS (C : World → Prop) (w : World) (E : World → K1 → Prop) (k : Value → Prop) : Prop :=
  ∃ v, E w (fun u w' => u = v ∧ w' = w) ∧ (∀ w1, C w1 → E w1 (fun u w' => u = v ∧ w' = w1)) ∧ k v

/-- The kinds of operations that are taken as soon as they may be. -/
def isStill (o : Oper) : Bool :=
  match o.op with
  | .call c => match c.callee with | .builtin .len | .builtin .cap | .builtin .min | .builtin .max => true | _ => false
  | .store .. | .alloc .. | .box .. | .buildSlice .. | .makeSlice .. | .next .. | .range .. | .go .. | .defer .. | .panic .. | .convert .. | .select .. => false
  | _ => true

/-- The kinds that hang on no world. -/
def isPure (o : Oper) : Bool := match o.op with | .move _ | .assign _ | .pick .. | .extract .. | .nilCheck _ => true | _ => false
theorem opX_pure {P : Program} {o : Oper} {ρ : Operand → Value} {w : World} {K : K1} (hp : isPure o = true) (h : opX P o ρ w K) : ∃ v, K v w ∧ ∀ w1, opX P o ρ w1 fun u w' => u = v ∧ w' = w1 := by
  obtain ⟨dst, op, type, pos, aft, guard⟩ := o
  cases op <;> first | (cases hp; done) | skip
  case move x => exact ⟨_, h, fun _ => ⟨rfl, rfl⟩⟩
  case assign x => exact ⟨_, h, fun _ => ⟨rfl, rfl⟩⟩
  case pick c a b =>
    unfold opX sPick at *
    dsimp only at *
    cases hc : ρ c <;> rw [hc] at h <;> first | exact h.elim | exact ⟨_, h, fun _ => ⟨rfl, rfl⟩⟩
  case extract t i =>
    unfold opX sExtract at *
    dsimp only at *
    cases hc : ρ t <;> rw [hc] at h <;> first | exact h.elim | skip
    rename_i vs
    dsimp only at h ⊢
    cases hv : vs.toList[i]? <;> rw [hv] at h <;> first | exact h.elim | exact ⟨_, h, fun _ => ⟨rfl, rfl⟩⟩
  case nilCheck x =>
    unfold opX sNil at *
    dsimp only at *
    split at h
    · rename_i hx; exact ⟨_, h, fun _ => ⟨rfl, rfl⟩⟩
    · rename_i hx; exact ⟨_, h, fun _ => ⟨rfl, rfl⟩⟩
    · rename_i hx; exact ⟨_, h, fun _ => ⟨rfl, rfl⟩⟩
    · exact h.elim

/-- One operation of a region that draws. -/
def stepD (P : Program) (ops : Array Oper) (C : World → Prop) (k : Nat) (fr : Fr) (w : World) (N : Fr → World → Prop) : Prop :=
  match ops[k]? with
  | none => False
  | some o =>
    bif isPure o then opX P o (ev fr) w fun v w => N (put fr o.dst v) w
    else bif isStill o then stillS C w (fun w k => opX P o (ev fr) w k) (fun v => N (put fr o.dst v) w)
      else opX P o (ev fr) w fun v w => C w ∧ N (put fr o.dst v) w
/-- From here on fewer worlds. -/
def SubS (C : World → Prop) (w : World) (A : (World → Prop) → Prop) : Prop := ∃ C' : World → Prop, (∀ w, C' w → C w) ∧ C' w ∧ A C'
theorem SubS.intro {C : World → Prop} {w : World} {A : (World → Prop) → Prop} (C' : World → Prop) (h1 : ∀ w, C' w → C w) (h2 : C' w) (h3 : A C') : SubS C w A := ⟨C', h1, h2, h3⟩
def drawS (P : Program) (ops : Array Oper) (C : World → Prop) : Sch → Fr → World → (Fr → World → Prop) → Prop
  | .done, fr, w, K => K fr w
  | .alt i a j b, fr, w, K => stepD P ops C i fr w (fun fr w => drawS P ops C a fr w K) ∧ stepD P ops C j fr w (fun fr w => drawS P ops C b fr w K)
  | .op k s, fr, w, K => stepD P ops C k fr w (fun fr w => drawS P ops C s fr w K)
  | .skip k s, fr, w, K => match ops[k]? with | none => False | some o => drawS P ops C s (put fr o.dst undef) w K
  | .test j a b, fr, w, K => match slotOf ops j with | none => False | some d => sIf (gv fr d) (drawS P ops C a ((d, .bool true) :: fr) w K) (drawS P ops C b ((d, .bool false) :: fr) w K)
  | .know j b s, fr, w, K => match slotOf ops j with | none => False | some d => isB b (gv fr d) (drawS P ops C s fr w K)
  | .fin k s, fr, w, K => match ops[k]? with | none => False | some o => opX P o (ev fr) w fun v w => drawS P ops C s (put fr o.dst v) w K
  | .opc k s, fr, w, K => match ops[k]? with | none => False | some o => opX P o (ev fr) w fun v w => SubS C w fun C => drawS P ops C s (put fr o.dst v) w K

/-! ## Code -/

def allV : Nat → (List Value → Prop) → Prop
  | 0, p => p []
  | n + 1, p => ∀ v : Value, allV n fun vs => p (v :: vs)

theorem allV_of (n : Nat) : ∀ (p : List Value → Prop), (∀ us, us.length = n → p us) → allV n p := by
  induction n with
  | zero => intro p h; exact h [] rfl
  | succ n ih => intro p h v; exact ih _ fun us hu => h (v :: us) (by simp [hu])
theorem allV_at (n : Nat) : ∀ (p : List Value → Prop), allV n p → ∀ us, us.length = n → p us := by
  induction n with
  | zero => intro p h us hu; rw [List.eq_nil_of_length_eq_zero hu]; exact h
  | succ n ih =>
    intro p h us hu
    cases us with
    | nil => simp at hu
    | cons v vs => exact ih _ (h v) vs (by simpa using hu)

def hd : List Value → Value
  | v :: _ => v
  | [] => undef
def tl : List Value → List Value
  | _ :: r => r
  | [] => []
def lay : List Nat → List Value → Fr → Fr
  | [], _, fr => fr
  | d :: ds, us, fr => (d, hd us) :: lay ds (tl us) fr

/-- A loop: an invariant and a measure over what it carries. -/
def LoopS (init : List Value) (n k : Nat) (w : World) (B : List Value → List Value → World → (List Value → World → Prop) → Prop) : Prop :=
  ∃ (J : List Value → World → Prop) (m : List Value → World → Nat), J init w ∧ allV n fun us => allV k fun vs => ∀ w, J us w → B us vs w (fun us' w' => J us' w' ∧ m us' w' < m us w)
/-- Ways that meet again. -/
def JoinS (n k : Nat) (A : (List Value → World → Prop) → Prop) (B : List Value → List Value → World → Prop) : Prop :=
  ∃ M : List Value → World → Prop, A M ∧ allV n fun us => allV k fun vs => ∀ w, M us w → B us vs w
/-- A region that draws its order. -/
def DrawS (w : World) (A : (World → Prop) → World → Prop) : Prop := ∃ C : World → Prop, C w.drew ∧ A C w.drew

theorem LoopS.intro {init : List Value} {n k : Nat} {w : World} {B : List Value → List Value → World → (List Value → World → Prop) → Prop} (J : List Value → World → Prop) (m : List Value → World → Nat) (h0 : J init w)
    (h : ∀ us vs w, J us w → B us vs w (fun us' w' => J us' w' ∧ m us' w' < m us w)) : LoopS init n k w B :=
  ⟨J, m, h0, allV_of _ _ fun us _ => allV_of _ _ fun vs _ w hj => h us vs w hj⟩
theorem JoinS.intro {n k : Nat} {A : (List Value → World → Prop) → Prop} {B : List Value → List Value → World → Prop} (M : List Value → World → Prop) (hA : A M) (h : ∀ us vs w, M us w → B us vs w) : JoinS n k A B :=
  ⟨M, hA, allV_of _ _ fun us _ => allV_of _ _ fun vs _ w hm => h us vs w hm⟩
theorem JoinS.dup {n k : Nat} {A : (List Value → World → Prop) → Prop} {B : List Value → List Value → World → Prop} (hA : A fun us w => ∀ vs, B us vs w) : JoinS n k A B :=
  JoinS.intro _ hA fun _ vs _ h => h vs
theorem DrawS.intro {w : World} {A : (World → Prop) → World → Prop} (C : World → Prop) (hC : C w.drew) (h : A C w.drew) : DrawS w A := ⟨C, hC, h⟩

/- 'let _ := @opX': these are unfolded ahead of the operations. -/
def onNormal (K : Fr → World → Prop) (Q : Exit → Fr → World → Prop) (e : Exit) (fr : Fr) (w : World) : Prop :=
  let _ := @opX
  match e with
  | .normal => K fr w
  | e => Q e fr w
def onBlock (id : Nat) (Q : Exit → Fr → World → Prop) (e : Exit) (fr : Fr) (w : World) : Prop :=
  let _ := @opX
  match e with
  | .exit i => bif Nat.beq i id then Q .normal fr w else Q (.exit i) fr w
  | e => Q e fr w
def onScope (Q : Exit → Fr → World → Prop) (e : Exit) (fr : Fr) (w : World) : Prop :=
  let _ := @opX
  match e with
  | .goto _ => False
  | e => Q e fr w

/-- WHAT IS ASKED OF A PIECE OF CODE, its slots taken away. -/
def codeS (P : Program) : SC → Code → Fr → World → (Exit → Fr → World → Prop) → Prop
  | .reg s, c, fr, w, Q =>
    match c with
    | .region _ ops _ => opsS P ops s fr w (Q .normal)
    | _ => False
  | .nop, c, fr, w, Q =>
    match c with
    | .skip => Q .normal fr w
    | .exit id => Q (.exit id) fr w
    | .label _ => Q .normal fr w
    | .ret => Q .ret fr w
    | _ => False
  | .draw s, c, fr, w, Q =>
    match c with
    | .region _ ops _ => DrawS w fun C w => drawS P ops C s fr w (Q .normal)
    | _ => False
  | .seq a b, c, fr, w, Q =>
    match c with
    | .seq x y => codeS P a x fr w (onNormal (fun fr w => codeS P b y fr w Q) Q)
    | _ => False
  | .join cs rs a b, c, fr, w, Q =>
    match c with
    | .seq x y => JoinS cs.length rs.length (fun M => codeS P a x fr w (onNormal (fun fr w => M (cs.map (gv fr)) w) Q)) (fun us vs w => codeS P b y (lay cs us (lay rs vs fr)) w Q)
    | _ => False
  | .cond a b, c, fr, w, Q =>
    match c with
    | .cond t x y => sIf (ev fr t) (codeS P a x fr w Q) (codeS P b y fr w Q)
    | _ => False
  | .sub a, c, fr, w, Q =>
    match c with
    | .block id x => codeS P a x fr w (onBlock id Q)
    | .scope x => codeS P a x fr w (onScope Q)
    | _ => False
  | .loop cs rs a, c, fr, w, Q =>
    match c with
    | .loop x => LoopS (cs.map (gv fr)) cs.length rs.length w fun us vs w Nx => codeS P a x (lay cs us (lay rs vs fr)) w (onNormal (fun fr w => Nx (cs.map (gv fr)) w) Q)
    | _ => False

/-! ## Which hints fit -/

def opsD (l : List Oper) : List Nat := l.filterMap (·.dst)
def dsts : Code → List Nat
  | .region _ ops _ => opsD ops.toList
  | .seq a b => dsts a ++ dsts b
  | .cond _ a b => dsts a ++ dsts b
  | .block _ a => dsts a
  | .loop a => dsts a
  | .scope a => dsts a
  | _ => []
def okOps (n : Nat) (l : List Oper) : Bool := l.all fun o => match o.dst with | some d => Nat.blt d n | none => true
abbrev Env := List (Nat × Option Bool)
def Env.knows (env : Env) (j : Nat) (b : Option Bool) : Bool := env.contains (j, b)
/-- The guard says yes. -/
def gYes (env : Env) (o : Oper) : Bool := match o.guard with | none => true | some (j, want) => env.knows j (some want)
/-- The guard says no. -/
def gNo (env : Env) (o : Oper) : Bool := match o.guard with | none => false | some (j, want) => env.knows j (some !want) || env.knows j none
/-- What is known of guards stays. -/
def keeps (ops : Array Oper) (env : Env) (o : Oper) : Bool := match o.dst with | none => true | some d => env.all fun p => slotOf ops p.1 != some d
def okSeq (ops : Array Oper) : Sch → Nat → Env → Bool
  | .done, k, _ => Nat.beq k ops.size
  | .op j s, k, env => match ops[j]? with | none => false | some o => Nat.beq j k && gYes env o && keeps ops env o && okSeq ops s (k + 1) env
  | .skip j s, k, env => match ops[j]? with | none => false | some o => Nat.beq j k && gNo env o && keeps ops env o && okSeq ops s (k + 1) ((j, none) :: env)
  | .test j a b, k, env => okSeq ops a k ((j, some true) :: env) && okSeq ops b k ((j, some false) :: env)
  | .know j b s, k, env => okSeq ops s k ((j, some b) :: env)
  | .alt _ _ _ _, _, _ => false
  | .fin _ _, _, _ => false
  | .opc _ _, _, _ => false
/-- What an operation waits for. -/
def onsOf (o : Oper) : List Nat := (o.after.toList.filter (Region.binds .any ·)).map (·.on)
/-- What stands ahead of the listed ones, all ways down (where the edges point back). -/
def reach (ops : Array Oper) : List Nat → List Nat → List Nat
  | [], acc => acc
  | i :: r, acc => reach ops r (bif acc.contains i then (match ops[i]? with | some o => onsOf o ++ acc | none => acc) else acc)
def reachs (ops : Array Oper) (zs : List Nat) : List (Nat × List Nat) := zs.map fun z => (z, reach ops (List.range ops.size).reverse [z])
/-- The operation stands ahead of each of those that need no class. -/
def domB (Zr : List (Nat × List Nat)) (i : Nat) : Bool := Zr.all fun p => Nat.beq p.1 i || p.2.contains i
def inZ (Zr : List (Nat × List Nat)) (i : Nat) : Bool := Zr.any fun p => Nat.beq p.1 i
def okSch (ops : Array Oper) (Zr : List (Nat × List Nat)) : Sch → Array Bool → Env → Bool
  | .done, listed, _ => (Region.ready .any ops listed).isEmpty
  | .op k s, listed, env =>
    match ops[k]? with
    | none => false
    | some o =>
      (bif isStill o then (Region.ready .any ops listed).contains k && Region.free .any ops listed k && domB Zr k else Region.ready .any ops listed == [k]) &&
        gYes env o && keeps ops env o && okSch ops Zr s (listed.setIfInBounds k true) env
  | .skip k s, listed, env =>
    match ops[k]? with
    | none => false
    | some o => (Region.ready .any ops listed).contains k && Region.free .any ops listed k && domB Zr k && gNo env o && keeps ops env o && okSch ops Zr s (listed.setIfInBounds k true) ((k, none) :: env)
  | .know j b s, listed, env => okSch ops Zr s listed ((j, some b) :: env)
  | .test j a b, listed, env => Nat.beq a.len b.len && okSch ops Zr a listed ((j, some true) :: env) && okSch ops Zr b listed ((j, some false) :: env)
  | .alt i a j b, listed, env =>
    Nat.beq a.len b.len && Region.ready .any ops listed == [i, j] &&
      (match ops[i]? with | none => false | some o => !isStill o && gYes env o && keeps ops env o) && (match ops[j]? with | none => false | some o => !isStill o && gYes env o && keeps ops env o) &&
      okSch ops Zr a (listed.setIfInBounds i true) env && okSch ops Zr b (listed.setIfInBounds j true) env
  | .fin k s, listed, env =>
    match ops[k]? with
    | none => false
    | some o => Region.ready .any ops listed == [k] && !isStill o && inZ Zr k && s.finS && gYes env o && keeps ops env o && okSch ops Zr s (listed.setIfInBounds k true) env
  | .opc k s, listed, env =>
    match ops[k]? with
    | none => false
    | some o => Region.ready .any ops listed == [k] && !isStill o && gYes env o && keeps ops env o && okSch ops Zr s (listed.setIfInBounds k true) env
def okC (n : Nat) : SC → Code → Bool
  | .nop, .skip => true
  | .reg s, .region _ ops d => !d && okOps n ops.toList && okSeq ops s 0 []
  | .nop, .exit _ => true
  | .nop, .label _ => true
  | .nop, .ret => true
  | .nop, .refuse _ => true
  | .draw s, .region _ ops d => d && okOps n ops.toList && Region.noSelect ops && Nat.beq s.len ops.size && okSch ops (reachs ops s.fins) s (Array.replicate ops.size false) []
  | .seq a b, .seq x y => okC n a x && okC n b y
  | .join cs rs a b, .seq x y => (dsts x).all (fun d => (cs ++ rs).contains d) && okC n a x && okC n b y
  | .cond a b, .cond _ x y => okC n a x && okC n b y
  | .sub a, .block _ x => okC n a x
  | .sub a, .scope x => okC n a x
  | .loop cs rs a, .loop x => (dsts x).all (fun d => (cs ++ rs).contains d) && okC n a x
  | _, _ => false

/-! ## Soundness -/

/-- The act's slots are what the frame says. -/
def Rel (n : Nat) (a : Act) (fr : Fr) : Prop := a.defers = [] ∧ a.tmps.size = n ∧ ∀ t, a.tmps.getD t undef = gv fr t

theorem Rel.eval {n : Nat} {a : Act} {fr : Fr} (h : Rel n a fr) (x : Operand) : a.eval x = ev fr x := by
  cases x with
  | tmp t => exact h.2.2 t
  | _ => rfl
theorem Rel.evalF {n : Nat} {a : Act} {fr : Fr} (h : Rel n a fr) : a.eval = ev fr := funext h.eval
theorem Rel.put {n : Nat} {a : Act} {fr : Fr} (h : Rel n a fr) (dst : Option Nat) (v : Value) (hd : ∀ d, dst = some d → d < n) : Rel n (a.put dst v) (put fr dst v) := by
  cases dst with
  | none => exact h
  | some d =>
    have hlt := hd d rfl
    refine ⟨h.1, by simp [Act.put, h.2.1], fun t => ?_⟩
    show (a.tmps.setIfInBounds d v).getD t undef = gv ((d, v) :: fr) t
    rw [gv_cons]
    by_cases e : d = t
    · subst e; simp [Array.getD_eq_getD_getElem?, h.2.1, hlt]
    · rw [if_neg e, ← h.2.2 t]
      simp [Array.getD_eq_getD_getElem?, Array.getElem?_setIfInBounds_ne e]
theorem Rel.same {n : Nat} {a : Act} {fr fr' : Fr} (h : Rel n a fr) (e : ∀ t, gv fr' t = gv fr t) : Rel n a fr' := ⟨h.1, h.2.1, fun t => (h.2.2 t).trans (e t).symm⟩

theorem undef_ne_bool (b : Bool) : undef ≠ .bool b := by unfold undef; intro h; cases h

theorem sIf_cases {c : Value} {A B : Prop} (h : sIf c A B) : (c = .bool true ∧ A) ∨ (c = .bool false ∧ B) := by
  unfold sIf at h
  split at h
  · rename_i t
    cases t
    · exact .inr ⟨rfl, h⟩
    · exact .inl ⟨rfl, h⟩
  · exact h.elim

theorem gv_lit {fr : Fr} {d : Nat} {v : Value} (h : gv fr d = v) (t : Nat) : gv ((d, v) :: fr) t = gv fr t := by
  rw [gv_cons]
  by_cases e : d = t
  · subst e; rw [if_pos rfl, h]
  · rw [if_neg e]

/-- What is known of guards holds. -/
def Knows (ops : Array Oper) (a : Act) (env : Env) : Prop := ∀ j b, (j, b) ∈ env → yielded ops a.tmps j = b

theorem Knows.nil (ops : Array Oper) (a : Act) : Knows ops a [] := fun _ _ h => by cases h
theorem Knows.cons {ops : Array Oper} {a : Act} {env : Env} (h : Knows ops a env) {j : Nat} {b : Option Bool} (hj : yielded ops a.tmps j = b) : Knows ops a ((j, b) :: env) := by
  intro k c hk
  rcases List.mem_cons.1 hk with e | hk
  · cases e; exact hj
  · exact h k c hk
theorem Knows.put {ops : Array Oper} {a : Act} {env : Env} (h : Knows ops a env) {o : Oper} (v : Value) (hk : keeps ops env o = true) : Knows ops (a.put o.dst v) env := by
  intro j b hj
  rw [← h j b hj]
  unfold keeps at hk
  cases hd : o.dst with
  | none => rfl
  | some d =>
    rw [hd] at hk
    have hne := List.all_eq_true.1 hk (j, b) hj
    simp only [bne_iff_ne, ne_eq] at hne
    unfold slotOf at hne
    unfold yielded
    cases hs : (ops[j]?).bind (·.dst) with
    | none => rfl
    | some d' =>
      have hdd : d ≠ d' := fun e => hne (by rw [hs, e])
      simp [Act.put, Array.getElem?_setIfInBounds_ne hdd]
theorem mem_knows {env : Env} {j : Nat} {b : Option Bool} (h : env.knows j b = true) : (j, b) ∈ env := by simpa [Env.knows] using h
theorem gYes_wanted {ops : Array Oper} {a : Act} {env : Env} (h : Knows ops a env) {o : Oper} (hg : gYes env o = true) : Region.wanted o (yielded ops a.tmps) = true := by
  unfold gYes at hg
  unfold Region.wanted
  cases hgo : o.guard with
  | none => rfl
  | some p =>
    obtain ⟨j, want⟩ := p
    rw [hgo] at hg
    simp [h j (some want) (mem_knows hg)]
theorem gNo_wanted {ops : Array Oper} {a : Act} {env : Env} (h : Knows ops a env) {o : Oper} (hg : gNo env o = true) : Region.wanted o (yielded ops a.tmps) = false := by
  unfold gNo at hg
  unfold Region.wanted
  cases hgo : o.guard with
  | none => rw [hgo] at hg; cases hg
  | some p =>
    obtain ⟨j, want⟩ := p
    rw [hgo] at hg
    rw [Bool.or_eq_true] at hg
    rcases hg with hg | hg
    · have := h j (some !want) (mem_knows hg)
      simp only [this]
      cases want <;> rfl
    · have := h j none (mem_knows hg)
      simp only [this]
      cases want <;> rfl
theorem yielded_skip {ops : Array Oper} {a : Act} {j : Nat} {o : Oper} (hj : ops[j]? = some o) : yielded ops (a.put o.dst undef).tmps j = none := by
  unfold yielded
  rw [hj]
  cases hd : o.dst with
  | none => simp [hd]
  | some d =>
    simp only [Option.bind_some, hd, Act.put]
    rw [Array.getElem?_setIfInBounds]
    simp only [if_true]
    split
    · rename_i h; split at h
      · cases h
      · cases h
    · rfl
theorem yielded_of {n : Nat} {a : Act} {fr : Fr} {ops : Array Oper} {j d : Nat} {b : Bool} (hr : Rel n a fr) (hd : slotOf ops j = some d) (hb : gv fr d = .bool b) : yielded ops a.tmps j = some b := by
  unfold yielded
  unfold slotOf at hd
  rw [hd]
  have h1 := hr.2.2 d
  rw [hb] at h1
  cases ht : a.tmps[d]? with
  | none => simp [Array.getD_eq_getD_getElem?, ht] at h1; exact absurd h1 (undef_ne_bool b)
  | some v => simp [Array.getD_eq_getD_getElem?, ht] at h1; subst h1; simp [ht]
theorem test_cases {n : Nat} {a : Act} {fr : Fr} {ops : Array Oper} {j d : Nat} {A B : Prop} (hr : Rel n a fr) (hd : slotOf ops j = some d) (h : sIf (gv fr d) A B) :
    (yielded ops a.tmps j = some true ∧ A ∧ ∀ t, gv ((d, .bool true) :: fr) t = gv fr t) ∨ (yielded ops a.tmps j = some false ∧ B ∧ ∀ t, gv ((d, .bool false) :: fr) t = gv fr t) := by
  rcases sIf_cases h with ⟨hb, hh⟩ | ⟨hb, hh⟩
  · exact .inl ⟨yielded_of hr hd hb, hh, gv_lit hb⟩
  · exact .inr ⟨yielded_of hr hd hb, hh, gv_lit hb⟩
theorem isB_spec {b : Bool} {v : Value} {A : Prop} (h : isB b v A) : v = .bool b ∧ A := by
  unfold isB at h
  cases v <;> first | exact h.elim | skip
  rename_i c
  cases c <;> cases b <;> first | exact ⟨rfl, h⟩ | exact (h : False).elim

theorem outN_mono {P : Program} {K K' : K1} (h : ∀ v w, K v w → K' v w) {r : Result Next} (hh : outN P K r) : outN P K' r := by
  cases r with
  | ok n w => cases n <;> simp only [outN] at hh ⊢ <;> first | exact h _ _ hh | exact hh.mono h
  | halt x w => exact hh

theorem upon_of_outN {P : Program} {o : Oper} {a : Act} {next : Act → World → Prop} {Q : Exit → Act → World → Prop} {r : Result Next}
    (h : outN P (fun v w => next (a.put o.dst v) w) r) : o.upon P a next Q r := by
  cases r with
  | ok n w =>
    cases n <;> simp only [outN] at h <;> first | exact h.elim | skip
    case value v => exact h
    case skip => exact h
    case enter f args =>
      show Calls P f args w _
      unfold CallK at h
      rw [Array.toArray_toList] at h
      exact Calls.mono h fun e w' q => by cases e <;> first | exact q | exact q.elim
  | halt x w => exact h.elim

/-- The frame's slots off a list are as they were. -/
def Off (ds : List Nat) (fr fr' : Fr) : Prop := ∀ t, t ∉ ds → gv fr' t = gv fr t
theorem Off.refl (ds : List Nat) (fr : Fr) : Off ds fr fr := fun _ _ => rfl
theorem Off.trans {ds ds' es : List Nat} {a b c : Fr} (h : Off ds a b) (h' : Off ds' b c) (e : ∀ t, t ∉ es → t ∉ ds ∧ t ∉ ds') : Off es a c :=
  fun t ht => (h' t (e t ht).2).trans (h t (e t ht).1)

theorem put_off (fr : Fr) (dst : Option Nat) (v : Value) (ds : List Nat) (h : ∀ d, dst = some d → d ∈ ds) : Off ds fr (put fr dst v) := by
  intro t ht
  cases dst with
  | none => rfl
  | some d =>
    show gv ((d, v) :: fr) t = gv fr t
    rw [gv_cons, if_neg]
    intro e
    exact ht (e ▸ h d rfl)

/-- What holds behind a region. -/
def Post (n : Nat) (fr : Fr) (ds : List Nat) (K : Fr → World → Prop) : Exit → Act → World → Prop := fun e a w => e = .normal ∧ ∃ fr', Rel n a fr' ∧ Off ds fr fr' ∧ K fr' w

theorem okOps_dst {n : Nat} {l : List Oper} (h : okOps n l = true) {o : Oper} (ho : o ∈ l) : ∀ d, o.dst = some d → d < n := by
  intro d hd
  have := List.all_eq_true.1 h o ho
  rw [hd] at this
  rwa [Nat.blt_eq] at this

theorem mem_of_at {ops : Array Oper} {k : Nat} {o : Oper} (h : ops[k]? = some o) : o ∈ ops.toList := by simpa using Array.mem_of_getElem? h

theorem range_at {ops : Array Oper} {k : Nat} {o : Oper} (h : ops[k]? = some o) : List.range' k (ops.size - k) = k :: List.range' (k + 1) (ops.size - (k + 1)) := by
  have hlt : k < ops.size := (Array.getElem?_eq_some_iff.1 h).1
  have : ops.size - k = (ops.size - (k + 1)) + 1 := by omega
  rw [this, List.range'_succ]

theorem opsS_sound {P : Program} {ops : Array Oper} {n : Nat} {K : Fr → World → Prop} {fr0 : Fr} {ds : List Nat} (hok : okOps n ops.toList = true) (hds : ∀ o ∈ ops.toList, ∀ d, o.dst = some d → d ∈ ds) :
    ∀ (s : Sch) (k : Nat) (env : Env) (fr : Fr) (a : Act) (w : World), okSeq ops s k env = true → Knows ops a env → Rel n a fr → Off ds fr0 fr → opsS P ops s fr w K →
      wpOps P ops (Post n fr0 ds K) (List.range' k (ops.size - k)) a w := by
  intro s
  induction s with
  | done =>
    intro k env fr a w hs hk hr ho h
    have e : k = ops.size := Nat.eq_of_beq_eq_true hs
    subst e
    rw [Nat.sub_self]
    exact ⟨rfl, fr, hr, ho, h⟩
  | op j s ih =>
    intro k env fr a w hs hk hr ho h
    unfold okSeq at hs
    unfold opsS at h
    cases hj : ops[j]? with
    | none => rw [hj] at hs; cases hs
    | some o =>
      rw [hj] at hs h
      simp only [Bool.and_eq_true] at hs
      obtain ⟨⟨⟨hjk, hg⟩, hke⟩, hs⟩ := hs
      obtain rfl : j = k := Nat.eq_of_beq_eq_true hjk
      rw [range_at hj]
      unfold wpOps
      simp only [hj]
      rw [if_pos (gYes_wanted hk hg)]
      refine .inl ?_
      unfold Oper.wp
      rw [hr.evalF]
      refine upon_of_outN (outN_mono ?_ (opX_sound h))
      intro v w' hv
      exact ih _ env _ _ _ hs (hk.put v hke) (hr.put _ v (okOps_dst hok (mem_of_at hj))) (ho.trans (put_off fr o.dst v ds (hds o (mem_of_at hj))) (fun t ht => ⟨ht, ht⟩)) hv
  | skip j s ih =>
    intro k env fr a w hs hk hr ho h
    unfold okSeq at hs
    unfold opsS at h
    cases hj : ops[j]? with
    | none => rw [hj] at hs; cases hs
    | some o =>
      rw [hj] at hs h
      simp only [Bool.and_eq_true] at hs
      obtain ⟨⟨⟨hjk, hg⟩, hke⟩, hs⟩ := hs
      obtain rfl : j = k := Nat.eq_of_beq_eq_true hjk
      rw [range_at hj]
      unfold wpOps
      simp only [hj]
      rw [if_neg (by rw [gNo_wanted hk hg]; exact Bool.false_ne_true)]
      exact ih _ _ _ _ _ hs ((hk.put _ hke).cons (yielded_skip hj)) (hr.put _ _ (okOps_dst hok (mem_of_at hj))) (ho.trans (put_off fr o.dst _ ds (hds o (mem_of_at hj))) (fun t ht => ⟨ht, ht⟩)) h
  | test j x y ihx ihy =>
    intro k env fr a w hs hk hr ho h
    unfold okSeq at hs
    unfold opsS at h
    rw [Bool.and_eq_true] at hs
    cases hd : slotOf ops j with
    | none => rw [hd] at h; exact h.elim
    | some d =>
      rw [hd] at h
      rcases test_cases hr hd h with ⟨hb, hh, he⟩ | ⟨hb, hh, he⟩
      · exact ihx k _ _ a w hs.1 (hk.cons hb) (hr.same he) (fun t ht => (he t).trans (ho t ht)) hh
      · exact ihy k _ _ a w hs.2 (hk.cons hb) (hr.same he) (fun t ht => (he t).trans (ho t ht)) hh
  | know j b x ih =>
    intro k env fr a w hs hk hr ho h
    unfold okSeq at hs
    unfold opsS at h
    cases hd : slotOf ops j with
    | none => rw [hd] at h; exact h.elim
    | some d =>
      rw [hd] at h
      obtain ⟨hb, hh⟩ := isB_spec h
      exact ih k _ fr a w hs (hk.cons (yielded_of hr hd hb)) hr ho hh
  | alt i x j y ihx ihy => intro k env fr a w hs; cases hs
  | fin i s ih => intro k env fr a w hs; cases hs
  | opc i s ih => intro k env fr a w hs; cases hs

section draws
variable {P : Program} {ops : Array Oper} {C : World → Prop} {Q : Exit → Act → World → Prop}

/-- In state 'a', in every world of the class, operation 'o' leaves 'v' in its temporary and the world as it is. -/
def Yl (P : Program) (ops : Array Oper) (C : World → Prop) (o : Oper) (v : Value) (a : Act) : Prop :=
  (Region.wanted o (yielded ops a.tmps) = true ∧ ∀ w, C w → outN P (fun u w' => u = v ∧ w' = w) ((execOp a.eval o).run P w)) ∨
  (Region.wanted o (yielded ops a.tmps) = false ∧ v = undef)

theorem Yl.wpOp {i : Nat} {o : Oper} {v : Value} {a : Act} (hi : ops[i]? = some o) (hy : Yl P ops C o v a) {K : Act → World → Prop} {w : World} (hC : C w) (h : K (a.put o.dst v) w) : wpOp P ops Q i K a w := by
  unfold Go.wpOp
  simp only [hi]
  rcases hy with ⟨hw, hv⟩ | ⟨hw, rfl⟩
  · rw [if_pos hw]
    refine .inl ?_
    unfold Oper.wp
    exact upon_of_outN (outN_mono (fun u w' ⟨e1, e2⟩ => by subst e1; subst e2; exact h) (hv w hC))
  · rw [if_neg (by rw [hw]; exact Bool.false_ne_true)]; exact h

theorem Yl.of_same {o : Oper} {v : Value} {a a' : Act} (hy : Yl P ops C o v a) (he : execOp a'.eval o = execOp a.eval o)
    (hw : Region.wanted o (yielded ops a'.tmps) = Region.wanted o (yielded ops a.tmps)) : Yl P ops C o v a' := by
  unfold Yl at *
  rw [he, hw]
  exact hy

theorem Yl_put {j : Nat} {oi oj : Oper} {v : Value} (hj : ops[j]? = some oj) (hap : oi.apart ops oj = true)
    (hsi : ∀ cs b, oi.op ≠ .select cs b) (hsj : ∀ cs b, oj.op ≠ .select cs b)
    (hQ : ∀ c a w, ¬ Q (.panic c) a w) (hQ' : ∀ a w, ¬ Q .outgrown a w) {K : Act → World → Prop} {a : Act} {w : World}
    (hy : Yl P ops C oi v a) (h : wpOp P ops Q j K (a.put oi.dst v) w) :
    wpOp P ops Q j (fun a' w' => Yl P ops C oi v a' ∧ K (a'.put oi.dst v) w') a w := by
  obtain ⟨h1, h2, h3⟩ := Oper.apart_spec hap
  have keep : ∀ (a : Act), Yl P ops C oi v a → ∀ u, Yl P ops C oi v (a.put oj.dst u) := fun a hy u =>
    hy.of_same (execOp_put oi hsi a oj.dst u h3) (wanted_put oi a oj.dst u h3)
  have keepD : ∀ d, Yl P ops C oi v { a with defers := d :: a.defers } := fun d => hy.of_same rfl rfl
  unfold wpOp at *
  simp only [hj] at *
  rw [wanted_put oj a oi.dst v h1] at h
  split
  · rename_i hw
    simp only [hw, if_true] at h
    rcases h with h | ⟨_, _, _, hlets⟩
    case inr => exact absurd hlets (hQ' _ _)
    refine .inl ?_
    unfold Oper.wp at *
    rw [execOp_put oj hsj a oi.dst v h1] at h
    generalize (execOp a.eval oj).run P w = r at *
    cases r with
    | ok n w' =>
      cases n <;> simp only [Oper.upon] at h ⊢
      case value u => exact ⟨keep a hy u, by rw [← Act.put_comm a v u h2]; exact h⟩
      case skip => exact ⟨keep a hy _, by rw [← Act.put_comm a v undef h2]; exact h⟩
      case defer d =>
        refine ⟨keep _ (keepD d) _, ?_⟩
        rw [← Act.put_comm _ v undef h2, ← Act.put_defers]
        exact h
      case enter f args =>
        refine Calls.mono h fun e w'' he => ?_
        cases e with
        | returned u => exact ⟨keep a hy u, by rw [← Act.put_comm a v u h2]; exact he⟩
        | panicked c => exact absurd he (hQ _ _ _)
        | outgrown => exact he
      case row row args => exact Rows.mono h fun u w'' he => ⟨keep a hy u, by rw [← Act.put_comm a v u h2]; exact he⟩
    | halt x w' =>
      cases x <;> simp only [Oper.upon] at h ⊢
      case panic u => exact absurd h (hQ _ _ _)
  · rename_i hw
    simp only [hw] at h
    exact ⟨keep a hy _, by rw [← Act.put_comm a v undef h2]; exact h⟩

/-- 'wpAny', and every operation leaves a world of the class. -/
def wpAnyC (P : Program) (ops : Array Oper) (Q : Exit → Act → World → Prop) (C : World → Prop) (Z : Nat → Bool) : Nat → Array Bool → Act → World → Prop
  | 0, listed, a, w => Region.ready .any ops listed = [] ∧ Q .normal a w
  | fuel + 1, listed, a, w =>
    (Region.ready .any ops listed = [] → Q .normal a w) ∧
    ∀ i ∈ Region.ready .any ops listed, wpOp P ops Q i (fun a w => (Z i = false → C w) ∧ wpAnyC P ops Q C Z fuel (listed.setIfInBounds i true) a w) a w

theorem wpAnyC_sub {Z : Nat → Bool} {C' : World → Prop} (hs : ∀ w, C' w → C w) : ∀ (fuel : Nat) (listed : Array Bool) (a : Act) (w : World), wpAnyC P ops Q C' Z fuel listed a w → wpAnyC P ops Q C Z fuel listed a w
  | 0, _, _, _, h => h
  | fuel + 1, _, _, _, h => ⟨h.1, fun i hi => wpOp_mono (fun a w hh => ⟨fun hz => hs _ (hh.1 hz), wpAnyC_sub hs fuel _ a w hh.2⟩) (h.2 i hi)⟩
theorem wpAny_of_C {Z : Nat → Bool} : ∀ (fuel : Nat) (listed : Array Bool) (a : Act) (w : World), wpAnyC P ops Q C Z fuel listed a w → wpAny P .any ops Q fuel listed a w
  | 0, _, _, _, h => h
  | fuel + 1, _, _, _, h => ⟨h.1, fun i hi => wpOp_mono (fun a w hh => wpAny_of_C fuel _ a w hh.2) (h.2 i hi)⟩

/-- What is listed is listed behind what it waits for. -/
def Closed (ops : Array Oper) (listed : Array Bool) : Prop := ∀ (k : Nat) (o : Oper), ops[k]? = some o → listed.getD k false = true → ∀ e ∈ o.after, Region.binds .any e = true → listed.getD e.on false = true
theorem Closed.set {listed : Array Bool} {j : Nat} (h : Closed ops listed) (hj : j ∈ Region.ready .any ops listed) : Closed ops (listed.setIfInBounds j true) := by
  intro k o hk hl e he hb
  refine getD_set_true ?_
  by_cases hjk : j = k
  · subst hjk
    obtain ⟨_, o', ho', hall⟩ := mem_ready.1 hj
    rw [hk] at ho'; cases ho'
    exact hall e he hb
  · rw [getD_set_ne false hjk] at hl
    exact h k o hk hl e he hb
theorem reach_spec {listed : Array Bool} {z : Nat} (h : Closed ops listed) (hz : z ∈ Region.ready .any ops listed) : ∀ (l acc : List Nat), (∀ m ∈ acc, m = z ∨ listed.getD m false = true) → ∀ m ∈ reach ops l acc, m = z ∨ listed.getD m false = true := by
  intro l
  induction l with
  | nil => intro acc ha m hm; exact ha m hm
  | cons i r ih =>
    intro acc ha m hm
    unfold reach at hm
    refine ih _ ?_ m hm
    intro m hm
    cases hc : acc.contains i with
    | false => rw [hc] at hm; exact ha m hm
    | true =>
      rw [hc, cond_true] at hm
      cases ho : ops[i]? with
      | none => rw [ho] at hm; exact ha m hm
      | some o =>
        rw [ho] at hm
        rcases List.mem_append.1 hm with hm | hm
        · unfold onsOf at hm
          obtain ⟨e, he, rfl⟩ := List.mem_map.1 hm
          obtain ⟨he, hb⟩ := List.mem_filter.1 he
          have he : e ∈ o.after := by simpa using he
          rcases ha i (by simpa using hc) with rfl | hl
          · obtain ⟨_, o', ho', hall⟩ := mem_ready.1 hz
            rw [ho] at ho'; cases ho'
            exact .inr (hall e he hb)
          · exact .inr (h i o ho hl e he hb)
        · exact ha m hm
theorem domB_spec {zs : List Nat} {i j : Nat} {listed : Array Bool} (hd : domB (reachs ops zs) i = true) (h : Closed ops listed) (hj : j ∈ Region.ready .any ops listed) (hZ : inZ (reachs ops zs) j = true) (hji : j ≠ i) : listed.getD i false = true := by
  unfold inZ at hZ
  obtain ⟨p, hp, he⟩ := List.any_eq_true.1 hZ
  obtain rfl := Nat.eq_of_beq_eq_true he
  have := List.all_eq_true.1 hd p hp
  unfold reachs at hp
  obtain ⟨z, _, rfl⟩ := List.mem_map.1 hp
  rw [Bool.or_eq_true] at this
  rcases this with h1 | h1
  · exact absurd (Nat.eq_of_beq_eq_true h1) hji
  · rcases reach_spec h hj _ [z] (by simp) i (by simpa using h1) with h2 | h2
    · exact absurd h2.symm hji
    · exact h2

theorem wpAnyC_first {Z : Nat → Bool} {i : Nat} {oi : Oper} {v : Value} (hi : ops[i]? = some oi) (hsel : ∀ (j : Nat) (o : Oper) cs b, ops[j]? = some o → o.op ≠ .select cs b)
    (hQ : ∀ c a w, ¬ Q (.panic c) a w) (hQ' : ∀ a w, ¬ Q .outgrown a w) :
    ∀ (fuel : Nat) (listed : Array Bool) (a : Act) (w : World), C w → Closed ops listed → (∀ (listed : Array Bool) (j : Nat), Closed ops listed → j ∈ Region.ready .any ops listed → Z j = true → j ≠ i → listed.getD i false = true) →
      (∀ j oj, ops[j]? = some oj → j ≠ i → listed.getD j true = false → (∀ e ∈ oj.after, Region.binds .any e = true → e.on ≠ i) → oi.apart ops oj = true) →
      i ∈ Region.ready .any ops listed → Yl P ops C oi v a →
      wpAnyC P ops Q C Z fuel (listed.setIfInBounds i true) (a.put oi.dst v) w → wpAnyC P ops Q C Z (fuel + 1) listed a w := by
  intro fuel
  induction fuel with
  | zero =>
    intro listed a w hC hcl hz _ hr hy H
    refine ⟨fun h => (by rw [h] at hr; cases hr), fun j hj => ?_⟩
    by_cases hji : j = i
    · subst hji; exact hy.wpOp hi hC ⟨fun _ => hC, H⟩
    · have := ready_mono hj hji
      rw [H.1] at this
      cases this
  | succ fuel ih =>
    intro listed a w hC hcl hz hfree hr hy H
    refine ⟨fun h => (by rw [h] at hr; cases hr), fun j hj => ?_⟩
    by_cases hji : j = i
    · subst hji; exact hy.wpOp hi hC ⟨fun _ => hC, H⟩
    · have h1 := H.2 j (ready_mono hj hji)
      obtain ⟨hjun, oj, hoj, hall⟩ := mem_ready.1 hj
      have hnot : ∀ e ∈ oj.after, Region.binds .any e = true → e.on ≠ i := fun e he hb heq => by
        have h1 := hall e he hb
        have h0 := (mem_ready.1 hr).1
        rw [heq] at h1
        rcases Nat.lt_or_ge i listed.size with h' | h'
        · simp [h'] at h0 h1; rw [h0] at h1; cases h1
        · simp [Array.getElem?_eq_none h'] at h1
      have h2 := Yl_put hoj (hfree j oj hoj hji hjun hnot) (fun cs b => hsel i oi cs b hi) (fun cs b => hsel j oj cs b hoj) hQ hQ' hy h1
      have hfree' : ∀ k ok, ops[k]? = some ok → k ≠ i → (listed.setIfInBounds j true).getD k true = false →
          (∀ e ∈ ok.after, Region.binds .any e = true → e.on ≠ i) → oi.apart ops ok = true := fun k ok hk hki hun hno => by
        refine hfree k ok hk hki ?_ hno
        by_cases hjk : j = k
        · subst hjk; exact hjun
        · rw [getD_set_ne true hjk] at hun; exact hun
      have hZj : Z j = false := by
        cases hZ : Z j with
        | false => rfl
        | true =>
          have h1 := hz listed j hcl hj hZ hji
          have h0 := (mem_ready.1 hr).1
          rcases Nat.lt_or_ge i listed.size with h' | h'
          · simp [h'] at h0 h1; rw [h0] at h1; cases h1
          · simp [Array.getElem?_eq_none h'] at h1
      refine wpOp_mono (fun a' w' h3 => ⟨fun _ => h3.2.1 hZj, ih (listed.setIfInBounds j true) a' w' (h3.2.1 hZj) (hcl.set hj) hz hfree' (ready_mono hr (Ne.symm hji)) h3.1 ?_⟩) h2
      rw [Array.setIfInBounds_comm _ _ hji]
      exact h3.2.2

theorem draw_loud {n : Nat} {K : Fr → World → Prop} {k : Nat} {s : Sch} {fr0 fr : Fr} {ds : List Nat} {a : Act} {w : World} {o : Oper} {listed : Array Bool} {env : Env} {Z : Nat → Bool}
    (hok : okOps n ops.toList = true) (hds : ∀ o ∈ ops.toList, ∀ d, o.dst = some d → d ∈ ds)
    (ih : ∀ (fr : Fr) (a : Act) (w : World), C w → Knows ops a env → Rel n a fr → Off ds fr0 fr → drawS P ops C s fr w K → wpAnyC P ops (Post n fr0 ds K) C Z s.len (listed.setIfInBounds k true) a w)
    (ho : ops[k]? = some o) (hl : isStill o = false) (hg : gYes env o = true) (hke : keeps ops env o = true) (hk : Knows ops a env) (hr : Rel n a fr) (hoff : Off ds fr0 fr)
    (h : stepD P ops C k fr w (fun fr w => drawS P ops C s fr w K)) :
    wpOp P ops (Post n fr0 ds K) k (fun a w => (Z k = false → C w) ∧ wpAnyC P ops (Post n fr0 ds K) C Z s.len (listed.setIfInBounds k true) a w) a w := by
  have h : opX P o (ev fr) w fun v w => C w ∧ drawS P ops C s (put fr o.dst v) w K := by
    have hp : isPure o = false := by
      cases hp : isPure o with
      | false => rfl
      | true => unfold isPure at hp; unfold isStill at hl; split at hp <;> simp_all
    unfold stepD at h
    rw [ho] at h
    simp only [hp, hl, cond_false] at h
    exact h
  unfold Go.wpOp
  simp only [ho]
  rw [if_pos (gYes_wanted hk hg)]
  refine .inl ?_
  unfold Oper.wp
  rw [hr.evalF]
  refine upon_of_outN (outN_mono ?_ (opX_sound h))
  intro v w' hv
  exact ⟨fun _ => hv.1, ih _ _ _ hv.1 (hk.put v hke) (hr.put _ v (okOps_dst hok (mem_of_at ho))) (hoff.trans (put_off fr o.dst v ds (hds o (mem_of_at ho))) (fun t ht => ⟨ht, ht⟩)) hv.2⟩

theorem draw_fin {n : Nat} {K : Fr → World → Prop} {k : Nat} {s : Sch} {fr0 fr : Fr} {ds : List Nat} {a : Act} {w : World} {o : Oper} {listed : Array Bool} {env : Env} {Z : Nat → Bool}
    (hok : okOps n ops.toList = true) (hds : ∀ o ∈ ops.toList, ∀ d, o.dst = some d → d ∈ ds) (hZ : Z k = true)
    (ih : ∀ (fr : Fr) (a : Act) (w : World), Knows ops a env → Rel n a fr → Off ds fr0 fr → drawS P ops C s fr w K → wpAnyC P ops (Post n fr0 ds K) C Z s.len (listed.setIfInBounds k true) a w)
    (ho : ops[k]? = some o) (hg : gYes env o = true) (hke : keeps ops env o = true) (hk : Knows ops a env) (hr : Rel n a fr) (hoff : Off ds fr0 fr)
    (h : opX P o (ev fr) w fun v w => drawS P ops C s (put fr o.dst v) w K) :
    wpOp P ops (Post n fr0 ds K) k (fun a w => (Z k = false → C w) ∧ wpAnyC P ops (Post n fr0 ds K) C Z s.len (listed.setIfInBounds k true) a w) a w := by
  unfold Go.wpOp
  simp only [ho]
  rw [if_pos (gYes_wanted hk hg)]
  refine .inl ?_
  unfold Oper.wp
  rw [hr.evalF]
  refine upon_of_outN (outN_mono ?_ (opX_sound h))
  intro v w' hv
  exact ⟨fun h => (by rw [hZ] at h; cases h), ih _ _ _ (hk.put v hke) (hr.put _ v (okOps_dst hok (mem_of_at ho))) (hoff.trans (put_off fr o.dst v ds (hds o (mem_of_at ho))) (fun t ht => ⟨ht, ht⟩)) hv⟩

theorem draw_opc {n : Nat} {K : Fr → World → Prop} {k : Nat} {s : Sch} {fr0 fr : Fr} {ds : List Nat} {a : Act} {w : World} {o : Oper} {listed : Array Bool} {env : Env} {Z : Nat → Bool}
    (hok : okOps n ops.toList = true) (hds : ∀ o ∈ ops.toList, ∀ d, o.dst = some d → d ∈ ds)
    (ih : ∀ (C : World → Prop) (fr : Fr) (a : Act) (w : World), C w → Knows ops a env → Rel n a fr → Off ds fr0 fr → drawS P ops C s fr w K → wpAnyC P ops (Post n fr0 ds K) C Z s.len (listed.setIfInBounds k true) a w)
    (ho : ops[k]? = some o) (hg : gYes env o = true) (hke : keeps ops env o = true) (hk : Knows ops a env) (hr : Rel n a fr) (hoff : Off ds fr0 fr)
    (h : opX P o (ev fr) w fun v w => SubS C w fun C => drawS P ops C s (put fr o.dst v) w K) :
    wpOp P ops (Post n fr0 ds K) k (fun a w => (Z k = false → C w) ∧ wpAnyC P ops (Post n fr0 ds K) C Z s.len (listed.setIfInBounds k true) a w) a w := by
  unfold Go.wpOp
  simp only [ho]
  rw [if_pos (gYes_wanted hk hg)]
  refine .inl ?_
  unfold Oper.wp
  rw [hr.evalF]
  refine upon_of_outN (outN_mono ?_ (opX_sound h))
  rintro v w' ⟨C', h1, h2, h3⟩
  exact ⟨fun _ => h1 _ h2, wpAnyC_sub h1 _ _ _ _ (ih C' _ _ _ h2 (hk.put v hke) (hr.put _ v (okOps_dst hok (mem_of_at ho))) (hoff.trans (put_off fr o.dst v ds (hds o (mem_of_at ho))) (fun t ht => ⟨ht, ht⟩)) h3)⟩

theorem drawS_sound {n : Nat} {K : Fr → World → Prop} {fr0 : Fr} {ds : List Nat} {zs : List Nat} (hsel : Region.noSelect ops = true) (hok : okOps n ops.toList = true)
    (hds : ∀ o ∈ ops.toList, ∀ d, o.dst = some d → d ∈ ds) : ∀ (s : Sch) (C : World → Prop) (listed : Array Bool) (env : Env) (fr : Fr) (a : Act) (w : World), okSch ops (reachs ops zs) s listed env = true → (s.finS = false → C w) → Closed ops listed → Knows ops a env → Rel n a fr → Off ds fr0 fr →
      drawS P ops C s fr w K → wpAnyC P ops (Post n fr0 ds K) C (inZ (reachs ops zs)) s.len listed a w := by
  have hQ : ∀ c a w, ¬ Post n fr0 ds K (.panic c) a w := fun c a w q => by cases q.1
  have hQ' : ∀ a w, ¬ Post n fr0 ds K .outgrown a w := fun a w q => by cases q.1
  intro s
  induction s with
  | done =>
    intro C listed env fr a w hs hC hcl hk hr hoff h
    exact ⟨by simpa [okSch] using hs, rfl, fr, hr, hoff, h⟩
  | op k s ih =>
    intro C listed env fr a w hs hC hcl hk hr hoff h
    unfold okSch at hs
    cases ho : ops[k]? with
    | none => rw [ho] at hs; cases hs
    | some o =>
      rw [ho] at hs
      simp only [Bool.and_eq_true] at hs
      obtain ⟨⟨⟨hs1, hg⟩, hke⟩, hs2⟩ := hs
      cases hl : isStill o with
      | true =>
        rw [hl] at hs1
        simp only [cond_true, Bool.and_eq_true] at hs1
        have h : ∃ v, (∀ w1, C w1 → opX P o (ev fr) w1 fun u w' => u = v ∧ w' = w1) ∧ drawS P ops C s (put fr o.dst v) w K := by
          unfold drawS stepD at h
          rw [ho] at h
          dsimp only at h
          cases hp : isPure o with
          | true =>
            simp only [hp, cond_true] at h
            obtain ⟨v, hk', hall⟩ := opX_pure hp h
            exact ⟨v, fun w1 _ => hall w1, hk'⟩
          | false =>
            simp only [hp, hl, cond_false, cond_true] at h
            obtain ⟨v, _, hall, hkk⟩ := h
            exact ⟨v, hall, hkk⟩
        obtain ⟨v, hall, hkk⟩ := h
        refine wpAnyC_first ho (Region.noSelect_spec hsel) hQ hQ' s.len listed a w (hC rfl) hcl (fun l j h1 h2 h3 h4 => domB_spec hs1.2 h1 h2 h3 h4) (Region.free_spec ho hs1.1.2) (by simpa using hs1.1.1) (v := v) (.inl ⟨gYes_wanted hk hg, fun w1 h1 => ?_⟩) ?_
        · rw [hr.evalF]; exact opX_sound (hall w1 h1)
        · exact ih C _ env _ _ _ hs2 (fun _ => hC rfl) (hcl.set (by simpa using hs1.1.1)) (hk.put v hke) (hr.put _ v (okOps_dst hok (mem_of_at ho))) (hoff.trans (put_off fr o.dst v ds (hds o (mem_of_at ho))) (fun t ht => ⟨ht, ht⟩)) hkk
      | false =>
        rw [hl] at hs1
        simp only [cond_false, beq_iff_eq] at hs1
        refine ⟨fun h0 => (by rw [hs1] at h0; cases h0), fun i hi => ?_⟩
        rw [hs1] at hi
        obtain rfl : i = k := by simpa using hi
        exact draw_loud hok hds (fun fr a w hC' => ih C _ env fr a w hs2 (fun _ => hC') (hcl.set (by rw [hs1]; exact List.mem_singleton.2 rfl))) ho hl hg hke hk hr hoff h
  | skip k s ih =>
    intro C listed env fr a w hs hC hcl hk hr hoff h
    unfold okSch at hs
    cases ho : ops[k]? with
    | none => rw [ho] at hs; cases hs
    | some o =>
      rw [ho] at hs
      simp only [Bool.and_eq_true] at hs
      obtain ⟨⟨⟨⟨⟨hs0, hs1⟩, hd⟩, hg⟩, hke⟩, hs2⟩ := hs
      simp only [drawS, ho] at h
      refine wpAnyC_first ho (Region.noSelect_spec hsel) hQ hQ' s.len listed a w (hC rfl) hcl (fun l j h1 h2 h3 h4 => domB_spec hd h1 h2 h3 h4) (Region.free_spec ho hs1) (by simpa using hs0) (v := undef) (.inr ⟨gNo_wanted hk hg, rfl⟩) ?_
      exact ih C _ _ _ _ _ hs2 (fun _ => hC rfl) (hcl.set (by simpa using hs0)) ((hk.put _ hke).cons (yielded_skip ho)) (hr.put _ _ (okOps_dst hok (mem_of_at ho))) (hoff.trans (put_off fr o.dst _ ds (hds o (mem_of_at ho))) (fun t ht => ⟨ht, ht⟩)) h
  | test j x y ihx ihy =>
    intro C listed env fr a w hs hC hcl hk hr hoff h
    unfold okSch at hs
    simp only [Bool.and_eq_true] at hs
    unfold drawS at h
    cases hd : slotOf ops j with
    | none => rw [hd] at h; exact h.elim
    | some d =>
      rw [hd] at h
      rcases test_cases hr hd h with ⟨hb, hh, he⟩ | ⟨hb, hh, he⟩
      · exact ihx C listed _ _ a w hs.1.2 (fun hx => hC (by unfold Sch.finS; rw [hx, Bool.false_and])) hcl (hk.cons hb) (hr.same he) (fun t ht => (he t).trans (hoff t ht)) hh
      · have := ihy C listed _ _ a w hs.2 (fun hx => hC (by unfold Sch.finS; rw [hx, Bool.and_false])) hcl (hk.cons hb) (hr.same he) (fun t ht => (he t).trans (hoff t ht)) hh
        rw [← Nat.eq_of_beq_eq_true hs.1.1] at this
        exact this
  | know j b x ih =>
    intro C listed env fr a w hs hC hcl hk hr hoff h
    unfold okSch at hs
    unfold drawS at h
    cases hd : slotOf ops j with
    | none => rw [hd] at h; exact h.elim
    | some d =>
      rw [hd] at h
      obtain ⟨hb, hh⟩ := isB_spec h
      exact ih C listed _ fr a w hs (fun hx => hC hx) hcl (hk.cons (yielded_of hr hd hb)) hr hoff hh
  | alt i x j y ihx ihy =>
    intro C listed env fr a w hs hC hcl hk hr hoff h
    unfold okSch at hs
    simp only [Bool.and_eq_true, beq_iff_eq] at hs
    obtain ⟨⟨⟨⟨⟨hlen, hready⟩, hi1⟩, hj1⟩, hx⟩, hy⟩ := hs
    have hlen' : x.len = y.len := Nat.eq_of_beq_eq_true hlen
    cases hoi : ops[i]? with
    | none => rw [hoi] at hi1; cases hi1
    | some oi =>
    cases hoj : ops[j]? with
    | none => rw [hoj] at hj1; cases hj1
    | some oj =>
      rw [hoi] at hi1
      rw [hoj] at hj1
      simp only [Bool.and_eq_true, Bool.not_eq_true'] at hi1 hj1
      obtain ⟨hhx, hhy⟩ := h
      refine ⟨fun h0 => (by rw [hready] at h0; cases h0), fun k hkm => ?_⟩
      rw [hready] at hkm
      rcases List.mem_cons.1 hkm with rfl | hkm
      · exact draw_loud hok hds (fun fr a w hC' => ihx C _ env fr a w hx (fun _ => hC') (hcl.set (by rw [hready]; exact List.mem_cons_self))) hoi hi1.1.1 hi1.1.2 hi1.2 hk hr hoff hhx
      · obtain rfl : k = j := by simpa using hkm
        have := draw_loud hok hds (fun fr a w hC' => ihy C _ env fr a w hy (fun _ => hC') (hcl.set (by rw [hready]; exact List.mem_cons_of_mem _ (List.mem_singleton.2 rfl)))) hoj hj1.1.1 hj1.1.2 hj1.2 hk hr hoff hhy
        rw [← hlen'] at this
        exact this
  | fin k s ih =>
    intro C listed env fr a w hs hC hcl hk hr hoff h
    unfold okSch at hs
    cases ho : ops[k]? with
    | none => rw [ho] at hs; cases hs
    | some o =>
      rw [ho] at hs
      simp only [Bool.and_eq_true, beq_iff_eq] at hs
      obtain ⟨⟨⟨⟨⟨⟨hs1, hl⟩, hZ⟩, hf⟩, hg⟩, hke⟩, hs2⟩ := hs
      have h' : opX P o (ev fr) w fun v w => drawS P ops C s (put fr o.dst v) w K := by
        simp only [drawS, ho] at h
        exact h
      clear hC
      refine ⟨fun h0 => (by rw [hs1] at h0; cases h0), fun i hi => ?_⟩
      rw [hs1] at hi
      obtain rfl : i = k := by simpa using hi
      exact draw_fin hok hds hZ (fun fr a w => ih C _ env fr a w hs2 (fun hx => by rw [hf] at hx; cases hx) (hcl.set (by rw [hs1]; exact List.mem_singleton.2 rfl))) ho hg hke hk hr hoff h'
  | opc k s ih =>
    intro C listed env fr a w hs hC hcl hk hr hoff h
    unfold okSch at hs
    cases ho : ops[k]? with
    | none => rw [ho] at hs; cases hs
    | some o =>
      rw [ho] at hs
      simp only [Bool.and_eq_true, beq_iff_eq] at hs
      obtain ⟨⟨⟨⟨hs1, hl⟩, hg⟩, hke⟩, hs2⟩ := hs
      have h' : opX P o (ev fr) w fun v w => SubS C w fun C => drawS P ops C s (put fr o.dst v) w K := by
        simp only [drawS, ho] at h
        exact h
      refine ⟨fun h0 => (by rw [hs1] at h0; cases h0), fun i hi => ?_⟩
      rw [hs1] at hi
      obtain rfl : i = k := by simpa using hi
      exact draw_opc hok hds (fun C' fr a w hC' => ih C' _ env fr a w hs2 (fun _ => hC') (hcl.set (by rw [hs1]; exact List.mem_singleton.2 rfl))) ho hg hke hk hr hoff h'
end draws

theorem lay_gv (f : Nat → Value) (fr : Fr) (t : Nat) : ∀ (ds : List Nat), gv (lay ds (ds.map f) fr) t = if t ∈ ds then f t else gv fr t
  | [] => by simp [lay]
  | d :: ds => by
    simp only [List.map_cons, lay, hd, tl]
    rw [gv_cons, lay_gv f fr t ds]
    by_cases e : d = t
    · subst e; simp
    · have e' : t ≠ d := fun h => e h.symm
      simp [e, e']

theorem lay_same {cs rs : List Nat} {ds : List Nat} {fr fr' : Fr} (hoff : Off ds fr fr') (hall : ds.all (fun d => (cs ++ rs).contains d) = true) (t : Nat) :
    gv (lay cs (cs.map (gv fr')) (lay rs (rs.map (gv fr')) fr)) t = gv fr' t := by
  rw [lay_gv, lay_gv]
  by_cases h1 : t ∈ cs
  · rw [if_pos h1]
  · rw [if_neg h1]
    by_cases h2 : t ∈ rs
    · rw [if_pos h2]
    · rw [if_neg h2]
      refine (hoff t fun ht => ?_).symm
      have := List.all_eq_true.1 hall t ht
      simp only [List.contains_eq_mem, List.mem_append, decide_eq_true_eq] at this
      rcases this with h | h
      · exact h1 h
      · exact h2 h

/-- What a piece of code leaves, in terms of acts. -/
def Left (n : Nat) (fr : Fr) (ds : List Nat) (Q : Exit → Fr → World → Prop) : Exit → Act → World → Prop := fun e a w => ∃ fr', Rel n a fr' ∧ Off ds fr fr' ∧ Q e fr' w

theorem Left.mono {n : Nat} {fr : Fr} {ds ds' : List Nat} {Q : Exit → Fr → World → Prop} {e : Exit} {a : Act} {w : World} (h : Left n fr ds Q e a w) (hd : ∀ d, d ∈ ds → d ∈ ds') : Left n fr ds' Q e a w :=
  let ⟨fr', h1, h2, h3⟩ := h
  ⟨fr', h1, fun t ht => h2 t fun hh => ht (hd t hh), h3⟩

theorem mem_opsD {l : List Oper} : ∀ o ∈ l, ∀ d, o.dst = some d → d ∈ opsD l := fun o ho _ hd => List.mem_filterMap.2 ⟨o, ho, hd⟩

theorem codeS_sound {P : Program} {n : Nat} (hP : P.follows .mixedOrders = true) : ∀ (sc : SC) (c : Code) (fr : Fr) (a : Act) (w : World) (Q : Exit → Fr → World → Prop),
    okC n sc c = true → Rel n a fr → codeS P sc c fr w Q → c.wp P (Left n fr (dsts c) Q) a w := by
  intro sc
  induction sc with
  | nop =>
    intro c fr a w Q hok hr h
    cases c <;> simp only [okC, Bool.false_eq_true] at hok
    case skip => exact wp_skip ⟨fr, hr, Off.refl _ _, h⟩
    case exit id => exact wp_exit ⟨fr, hr, Off.refl _ _, h⟩
    case label l => exact wp_label ⟨fr, hr, Off.refl _ _, h⟩
    case ret => exact wp_ret ⟨fr, hr, Off.refl _ _, h⟩
    case refuse => exact h.elim
  | reg s =>
    intro c fr a w Q hok hr h
    cases c <;> simp only [okC, Bool.false_eq_true] at hok
    case region id ops d =>
      simp only [Bool.and_eq_true] at hok
      have hd : d = false := by simpa using hok.1.1
      subst hd
      have := opsS_sound (fr0 := fr) (ds := opsD ops.toList) hok.1.2 mem_opsD s 0 [] fr a w hok.2 (Knows.nil _ _) hr (Off.refl _ _) h
      rw [Nat.sub_zero, ← List.range_eq_range'] at this
      refine wp_mono (wp_region this) ?_
      rintro e a' w' ⟨rfl, fr', h1, h2, h3⟩
      exact ⟨fr', h1, h2, h3⟩
  | draw s =>
    intro c fr a w Q hok hr h
    cases c <;> simp only [okC, Bool.false_eq_true] at hok
    case region id ops d =>
      simp only [Bool.and_eq_true] at hok
      obtain ⟨⟨⟨⟨hd, hops⟩, hsel⟩, hlen⟩, hsch⟩ := hok
      subst hd
      obtain ⟨C, hC, hh⟩ := h
      have hcl0 : Closed ops (Array.replicate ops.size false) := fun k o _ hl => by
        rw [Array.getD_eq_getD_getElem?, Array.getElem?_replicate] at hl
        split at hl <;> cases hl
      have := drawS_sound (fr0 := fr) (ds := opsD ops.toList) hsel hops mem_opsD s C (Array.replicate ops.size false) [] fr a w.drew hsch (fun _ => hC) hcl0 (Knows.nil _ _) hr (Off.refl _ _) hh
      rw [Nat.eq_of_beq_eq_true hlen] at this
      refine wp_mono (wp_region_any hP (wpAny_of_C _ _ _ _ this)) ?_
      rintro e a' w' ⟨rfl, fr', h1, h2, h3⟩
      exact ⟨fr', h1, h2, h3⟩
  | seq x y ihx ihy =>
    intro c fr a w Q hok hr h
    cases c <;> simp only [okC, Bool.false_eq_true] at hok
    case seq cx cy =>
      rw [Bool.and_eq_true] at hok
      refine wp_seq (wp_mono (ihx cx fr a w _ hok.1 hr h) ?_)
      rintro e a' w' ⟨fr', h1, h2, h3⟩
      cases e with
      | normal =>
        refine wp_mono (ihy cy fr' a' w' Q hok.2 h1 h3) ?_
        rintro e2 a2 w2 ⟨fr2, g1, g2, g3⟩
        exact ⟨fr2, g1, h2.trans g2 (fun t ht => by simpa [dsts] using ht), g3⟩
      | _ => exact ⟨fr', h1, fun t ht => h2 t (fun hh => ht (List.mem_append_left _ hh)), h3⟩
  | join cs rs x y ihx ihy =>
    intro c fr a w Q hok hr h
    cases c <;> simp only [okC, Bool.false_eq_true] at hok
    case seq cx cy =>
      simp only [Bool.and_eq_true] at hok
      obtain ⟨⟨hall, hok1⟩, hok2⟩ := hok
      obtain ⟨M, hx, hy⟩ := h
      refine wp_seq (wp_mono (ihx cx fr a w _ hok1 hr hx) ?_)
      rintro e a' w' ⟨fr', h1, h2, h3⟩
      cases e with
      | normal =>
        have hy' := allV_at _ _ (allV_at _ _ hy (cs.map (gv fr')) (by simp)) (rs.map (gv fr')) (by simp) w' h3
        have hsame := lay_same h2 hall
        refine wp_mono (ihy cy _ a' w' Q hok2 (h1.same hsame) hy') ?_
        rintro e2 a2 w2 ⟨fr2, g1, g2, g3⟩
        refine ⟨fr2, g1, fun t ht => ?_, g3⟩
        have ht' : t ∉ dsts cx ∧ t ∉ dsts cy := by simpa [dsts] using ht
        exact (g2 t ht'.2).trans ((hsame t).trans (h2 t ht'.1))
      | _ => exact ⟨fr', h1, fun t ht => h2 t (fun hh => ht (List.mem_append_left _ hh)), h3⟩
  | cond x y ihx ihy =>
    intro c fr a w Q hok hr h
    cases c <;> simp only [okC, Bool.false_eq_true] at hok
    case cond t cx cy =>
      rw [Bool.and_eq_true] at hok
      rcases sIf_cases h with ⟨hb, hh⟩ | ⟨hb, hh⟩
      · refine wp_cond_true ((hr.eval t).trans hb) (wp_mono (ihx cx fr a w Q hok.1 hr hh) ?_)
        exact fun e a' w' q => Left.mono q (fun d hd => List.mem_append_left _ hd)
      · refine wp_cond_false ((hr.eval t).trans hb) (wp_mono (ihy cy fr a w Q hok.2 hr hh) ?_)
        exact fun e a' w' q => Left.mono q (fun d hd => List.mem_append_right _ hd)
  | sub x ih =>
    intro c fr a w Q hok hr h
    cases c <;> simp only [okC, Bool.false_eq_true] at hok
    case block id cx =>
      refine wp_block (wp_mono (ih cx fr a w _ hok hr h) ?_)
      rintro e a' w' ⟨fr', h1, h2, h3⟩
      cases e with
      | exit i =>
        show (if i = id then _ else _)
        by_cases e : i = id
        · subst e
          rw [if_pos rfl]
          refine ⟨fr', h1, h2, ?_⟩
          simpa [onBlock] using h3
        · rw [if_neg e]
          refine ⟨fr', h1, h2, ?_⟩
          have hb : Nat.beq i id = false := by
            cases hq : Nat.beq i id with
            | true => exact absurd (Nat.eq_of_beq_eq_true hq) e
            | false => rfl
          simpa [onBlock, hb] using h3
      | _ => exact ⟨fr', h1, h2, h3⟩
    case scope cx =>
      refine wp_scope_straight (wp_mono (ih cx fr a w _ hok hr h) ?_)
      · rintro e a' w' ⟨fr', h1, h2, h3⟩
        cases e <;> first | exact (h3 : False).elim | exact ⟨fr', h1, h2, h3⟩
  | loop cs rs x ih =>
    intro c fr a w Q hok hr h
    cases c <;> simp only [okC, Bool.false_eq_true] at hok
    case loop cx =>
      rw [Bool.and_eq_true] at hok
      obtain ⟨J, m, h0, hround⟩ := h
      have hget : ∀ (a : Act) (fr : Fr), Rel n a fr → cs.map (fun t => a.tmps.getD t undef) = cs.map (gv fr) := fun a fr hr => List.map_congr_left fun t _ => hr.2.2 t
      refine wp_loop (fun a w => ∃ fr', Rel n a fr' ∧ Off (dsts cx) fr fr' ∧ J (cs.map (gv fr')) w) (fun a w => m (cs.map (fun t => a.tmps.getD t undef)) w) ⟨fr, hr, Off.refl _ _, h0⟩ ?_
      rintro a1 w1 ⟨fr1, h1, h2, h3⟩
      have hb := allV_at _ _ (allV_at _ _ hround (cs.map (gv fr1)) (by simp)) (rs.map (gv fr1)) (by simp) w1 h3
      have hsame := lay_same h2 hok.1
      refine wp_mono (ih cx _ a1 w1 _ hok.2 (h1.same hsame) hb) ?_
      rintro e a2 w2 ⟨fr2, g1, g2, g3⟩
      have hoff : Off (dsts cx) fr fr2 := fun t ht => (g2 t ht).trans ((hsame t).trans (h2 t ht))
      cases e with
      | normal => exact ⟨⟨fr2, g1, hoff, g3.1⟩, by rw [hget a2 fr2 g1, hget a1 fr1 h1]; exact g3.2⟩
      | _ => exact ⟨fr2, g1, hoff, g3⟩

/-! ## Whole functions -/

def argsF : Nat → List Value → Fr
  | _, [] => []
  | i, v :: vs => (i, v) :: argsF (i + 1) vs

def resS (P : Program) (rs : List ResultVar) (fr : Fr) (w : World) (K : K1) : Prop :=
  let _ := @opX
  match rs with
  | [] => K (.tuple #[]) w
  | [.tmp t] => K (gv fr t) w
  | [.cell a t] => sLoad P t (gv fr a) w fun v w' => w' = w ∧ K v w
  | [.tmp t, .tmp u] => K (.tuple #[gv fr t, gv fr u]) w
  | [.cell a t, .tmp u] => sLoad P t (gv fr a) w fun v w' => w' = w ∧ K (.tuple #[v, gv fr u]) w
  | [.tmp t, .tmp u, .tmp v] => K (.tuple #[gv fr t, gv fr u, gv fr v]) w
  | [.cell a t, .tmp u, .tmp x] => sLoad P t (gv fr a) w fun v w' => w' = w ∧ K (.tuple #[v, gv fr u, gv fr x]) w
  | _ => False

def retQ (P : Program) (rs : List ResultVar) (K : K1) (e : Exit) (fr : Fr) (w : World) : Prop :=
  let _ := @opX
  match e with
  | .normal => resS P rs fr w K
  | .ret => resS P rs fr w K
  | _ => False
/-- A function's body. -/
def bodyOf (fn : Func) : Code := match fn.body with | some c => c | none => .skip

theorem gv_argsF : ∀ (args : List Value) (i t : Nat), gv (argsF i args) t = if i ≤ t then (args[t - i]?).getD undef else undef
  | [], i, t => by simp [argsF, gv]
  | v :: vs, i, t => by
    simp only [argsF]
    rw [gv_cons, gv_argsF vs (i + 1) t]
    by_cases h : i = t
    · subst h; simp
    · rw [if_neg h]
      by_cases h2 : i ≤ t
      · rw [if_pos (by omega), if_pos h2]
        have : t - i = (t - (i + 1)) + 1 := by omega
        rw [this, List.getElem?_cons_succ]
      · rw [if_neg (by omega), if_neg h2]

theorem sLoad_loadVar {P : Program} {t : TypeId} {p : Value} {w : World} {R : Value → Prop} (h : sLoad P t p w fun v w' => w' = w ∧ R v) :
    ∃ a v, p = .pointer (some a) ∧ (loadVar t a).run P w = .ok v w ∧ R v := by
  unfold sLoad after Instr.loadAt at h
  cases p with
  | pointer x =>
    cases x with
    | none => simp [Instr.sureAddr, stuck] at h
    | some a =>
      simp only [Instr.sureAddr, Sem.run_bind, Sem.run_pure, Result.andThen_ok] at h
      cases hr : (loadVar t a).run P w with
      | ok v w' =>
        rw [hr] at h
        obtain ⟨rfl, hk⟩ := h
        exact ⟨a, v, rfl, hr, hk⟩
      | halt x w' => rw [hr] at h; exact h.elim
  | _ => simp [Instr.sureAddr, stuck] at h

theorem resS_sound {P : Program} {fn : Func} {fr : Fr} {a : Act} {w : World} {K : K1} {n : Nat} (hr : Rel n a fr) (h : resS P fn.results.toList fr w K) :
    ∃ v, (results fn a.tmps).run P w = .ok v w ∧ K v w := by
  obtain ⟨rs, hrs⟩ : ∃ rs, fn.results = Array.mk rs := ⟨fn.results.toList, by simp⟩
  have hrs' : fn.results.toList = rs := by rw [hrs]
  rw [hrs'] at h
  have hg : ∀ t, a.tmps.getD t undef = gv fr t := hr.2.2
  unfold resS at h
  split at h
  · exact ⟨_, by simp [results, hrs], h⟩
  · exact ⟨_, by simp [results, hrs, hg], h⟩
  · rename_i x t
    obtain ⟨ad, v, hp, hl, hk⟩ := sLoad_loadVar h
    exact ⟨v, by simp [results, hrs, hg, hp, asAddr, hl], hk⟩
  · exact ⟨_, by simp [results, hrs, hg], h⟩
  · rename_i x t u
    obtain ⟨ad, v, hp, hl, hk⟩ := sLoad_loadVar h
    exact ⟨_, by simp [results, hrs, hg, hp, asAddr, hl], hk⟩
  · exact ⟨_, by simp [results, hrs, hg], h⟩
  · rename_i x t u y
    obtain ⟨ad, v, hp, hl, hk⟩ := sLoad_loadVar h
    exact ⟨_, by simp [results, hrs, hg, hp, asAddr, hl], hk⟩
  · exact h.elim

/-- **A CALL, BY ITS CODE WITHOUT SLOTS.** -/
theorem call_of {P : Program} {f : FuncId} {fn : Func} {c : Code} {sc : SC} {args : List Value} {w : World} {K : K1} (hP : P.follows .mixedOrders = true)
    (hf : P.funcs[f]? = some fn) (hb : fn.body = some c) (hn : Nat.ble args.length fn.ntmps = true) (hok : okC fn.ntmps sc c = true)
    (h : codeS P sc c (argsF 0 args) w (retQ P fn.results.toList K)) : CallK P f args w K := by
  unfold CallK
  refine calls_of_wp hf hb (wp_mono (codeS_sound hP sc c (argsF 0 args) _ w _ hok ⟨rfl, ?_, ?_⟩ h) ?_)
  · have := Nat.le_of_ble_eq_true hn
    simp; omega
  · intro t
    rw [gv_argsF, if_pos (Nat.zero_le _)]
    simp only [Nat.sub_zero, Array.getD_eq_getD_getElem?]
    rw [Array.getElem?_append]
    by_cases ht : t < args.length
    · simp [ht]
    · rw [if_neg (by simpa using ht)]
      have : args[t]? = none := List.getElem?_eq_none (by omega)
      rw [this]
      rw [Array.getElem?_replicate]
      split <;> rfl
  · rintro e a' w' ⟨fr', h1, _, h3⟩
    cases e <;> first | exact h3.elim | skip
    case normal =>
      obtain ⟨v, hv, hk⟩ := resS_sound h1 h3
      exact ⟨h1.1, v, hv, hk⟩
    case ret =>
      obtain ⟨v, hv, hk⟩ := resS_sound h1 h3
      exact ⟨h1.1, v, hv, hk⟩

theorem sCall_of {P : Program} {f : FuncId} {fn : Func} {c : Code} {args : List Value} {w : World} {K : K1} (hf : P.funcs[f]? = some fn) (hn : (fn.name == "runtime.NumGoroutine") = false) (hb : fn.body = some c)
    (h : CallK P f args w K) : sCall P f args w K := by
  have hn' : fn.name ≠ "runtime.NumGoroutine" := by simpa using hn
  unfold sCall callFunc
  simp [hf, hn', hb, program, Sem.run]
  exact h
theorem sCall.mono {P : Program} {f : FuncId} {args : List Value} {w : World} {K K' : K1} (h : sCall P f args w K) (hk : ∀ v w', K v w' → K' v w') : sCall P f args w K' := by
  unfold sCall at *
  split at h
  · exact h.mono hk
  · exact hk _ _ h
  · exact h.elim

/-- **A CALL, BY ITS CODE WITHOUT SLOTS, as one line asks for it.** -/
theorem sCall_code {P : Program} {f : FuncId} {fn : Func} {sc : SC} {args : List Value} {w : World} {K : K1} {S : Prop} (hP : P.follows .mixedOrders = true)
    (hf : P.funcs[f]? = some fn) (hname : (fn.name == "runtime.NumGoroutine") = false) (hb : fn.body = some (bodyOf fn)) (hn : Nat.ble args.length fn.ntmps = true) (hok : okC fn.ntmps sc (bodyOf fn) = true)
    (hS : S = codeS P sc (bodyOf fn) (argsF 0 args) w (retQ P fn.results.toList K)) (h : S) : sCall P f args w K :=
  sCall_of hf hname hb (call_of hP hf hb hn hok (hS ▸ h))
/-- The same for a call as the model's own word has it. -/
theorem calls_code {P : Program} {f : FuncId} {fn : Func} {sc : SC} {args : List Value} {w : World} {K : K1} {S : Prop} {R : Ending → World → Prop} (hP : P.follows .mixedOrders = true)
    (hf : P.funcs[f]? = some fn) (hb : fn.body = some (bodyOf fn)) (hn : Nat.ble args.length fn.ntmps = true) (hok : okC fn.ntmps sc (bodyOf fn) = true)
    (hS : S = codeS P sc (bodyOf fn) (argsF 0 args) w (retQ P fn.results.toList K)) (h : S) (hR : ∀ v w', K v w' → R (.returned v) w') : Calls P f args.toArray w R :=
  Calls.mono (call_of (sc := sc) (args := args) hP hf hb hn hok (hS ▸ h)) fun e w' q => by
    cases e <;> first | exact hR _ _ q | exact (q : False).elim
theorem sCall_value {P : Program} {f : FuncId} {args : List Value} {w : World} {K : K1} {v : Value} {w' : World} (hr : (callFunc f args.toArray).run P w = .ok (.value v) w') (h : K v w') : sCall P f args w K := by
  unfold sCall; rw [hr]; exact h
/-- A call by a contract in the model's own word. -/
theorem sCall_calls {P : Program} {f : FuncId} {fn : Func} {c : Code} {args : List Value} {w : World} {K : K1} {R : Ending → World → Prop} (hf : P.funcs[f]? = some fn) (hn : (fn.name == "runtime.NumGoroutine") = false) (hb : fn.body = some c)
    (h : Calls P f args.toArray w R) (hK : ∀ e w', R e w' → ∃ v, e = .returned v ∧ K v w') : sCall P f args w K := by
  refine sCall_of hf hn hb ?_
  unfold CallK
  refine Calls.mono h fun e w' q => ?_
  obtain ⟨v, rfl, hk⟩ := hK e w' q
  exact hk
attribute [irreducible] sCall after
end Go.Lift
