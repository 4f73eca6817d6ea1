/- From a law's contract to its row: what the arguments read as; that they read as they did behind the call; that the answer is true. Conditions: the types' facts, which are closed. -/
import Derived.Test.YtpjmmhbdondknaaDoorRsn
import Derived.WalkKit
import Derived.ProofKit
import Derived.OpenShut
import Derived.Deep.DeepHandedRow
import Derived.Lib.LaidTab
namespace Go.Lift
open Go Go.RowKit Go.ChangeShapes Go.WideShapes Go.ChangeAt
section
variable {H : Type} {enc : TypeId × Value → H} {P : Program}

theorem stays_all {W W' : World} (hl : laidOutB P = true) (he : Ext W W') : ∀ (ts : List TypeId) (vs : List Value) (ds : List (DataW H)) (ps : List MemPlace), ts.all (fun t => P.readableRec t && Nat.blt t P.types.size) = true →
    DataW.TrodAll enc P W 0 (fun _ => true) true ts vs ds ps → (∀ x ∈ ps, x.block < W.heap.size) → DataW.TrodAll enc P W' 0 (fun b => decide (b < W.heap.size)) true ts vs ds ps
  | [], vs, ds, ps, _, h, _ => by
    obtain ⟨rfl, rfl, rfl⟩ := trodAll_nil h
    exact trodAll_mk0
  | t :: ts, vs, ds, ps, hts, h, hlt => by
    obtain ⟨v, vs1, d, ds1, a, b, rfl, rfl, rfl, h1, h2⟩ := trodAll_cons h
    rw [List.all_cons, Bool.and_eq_true, Bool.and_eq_true, Nat.blt_eq] at hts
    exact trodAll_cons_mk (Below.trod hl hts.1.1 hts.1.2 h1 he fun x hx => hlt x (List.mem_append_left _ hx)) (stays_all hl he ts vs1 ds1 b hts.2 h2 fun x hx => hlt x (List.mem_append_right _ hx))

/-- THE ROW's POST, for a law that answers true and leaves all as it was. -/
theorem post_true {f : Func} {s : ChangeSpec} {W W' : World} {args : Array Value} {ds gs : List (DataW H)} {before : List MemPlace} {tb : Nat} (hl : laidOutB P = true) (hr : f.resultTypes = #[tb]) (hb : P.underlying tb = some .bool)
    (hts : f.params.toList.all (fun t => P.readableRec t && Nat.blt t P.types.size) = true) (hvars : s.vars = []) (hs : s.fn H ds = { results := [.lit (.bool true)], args := ds })
    (hW : DataW.Whole enc P f.params.toList s.vars false W args.toList ds gs before) (he : Ext W W') : s.post enc P f false true false false W args (.bool true) W' := by
  have hlt := hW.lt
  have hW' := hW
  obtain ⟨p, q, hA, hV, rfl, hfz, hnd⟩ := hW
  rw [hvars] at hV
  obtain ⟨rfl, rfl⟩ := trodVars_none hV
  refine ⟨ds, [], _, [], p, [], hW', ?_, ?_, ?_, he.frame _, fun h => by cases h⟩
  · rw [List.append_nil, hs, hr]
    exact trodAll_cons_mk (shut_bool hb _) trodAll_mk0
  · rw [List.append_nil, hs]
    exact stays_all hl he _ _ _ _ hts hA fun x hx => hlt x (by simpa using hx)
  · rw [List.append_nil, hs, hvars]
    rfl

/-! ## What arguments read as -/
theorem cells_of_read {w : World} {a : Addr} {n : Nat} {cs : List Value} (h : w.cells? 0 a n = some cs) : cs.length = n ∧ ∀ i v, cs[i]? = some v → w.cell? (a.add i) = some v := by
  unfold World.cells? at h
  rw [if_pos (Nat.zero_le _)] at h
  have hl := Lib.mapM_length h
  refine ⟨by simpa using hl, fun i v hi => ?_⟩
  have hlt : i < n := by
    have := (List.getElem?_eq_some_iff.1 hi).1
    rw [hl] at this
    simpa using this
  obtain ⟨b, hb, hf⟩ := Lib.mapM_at h i i (by simp [hlt])
  rw [hi] at hb
  cases hb
  exact hf

/-- A slice reads as a list, if each element does. -/
theorem open_slc {α : Type} {w : World} {T e k : Nat} {a : Option Addr} {len cap : Nat} {d : DataW H} {ps : List MemPlace} {sp : Nat → Bool} {hd : Bool} {encA : α → List Value} {Q : α → Prop} (hel : elQ P T = some e) (hk : szQ P e = k) (h0 : 0 < k)
    (hel2 : ∀ fuel cs x, DataW.trod enc P w 0 sp hd fuel e cs = some x → cs.length = k → ∃ y, cs = encA y ∧ Q y) (h : DataW.Trod enc P w 0 sp hd T (.slice a len cap) d ps) :
    ∃ xs : List α, Sl w (.slice a len cap) k encA xs ∧ ∀ x ∈ xs, Q x := by
  have hT := elQ_spec hel
  have hce : P.cellsOf e = k := by
    unfold szQ at hk
    unfold Program.cellsOf
    cases hi : P.info? e with
    | none => rw [hi] at hk; dsimp only at hk; omega
    | some i => rw [hi] at hk; simpa using hk
  obtain ⟨fuel, hf⟩ := h
  cases fuel with
  | zero => simp [DataW.trod] at hf
  | succ fuel =>
    cases a with
    | none =>
      have hz : len = 0 ∧ cap = 0 := by
        cases len <;> cases cap <;> simp [DataW.trod, hT, Value.cells] at hf ⊢
      obtain ⟨rfl, rfl⟩ := hz
      exact ⟨[], Sl.nil w k encA, by simp⟩
    | some ad =>
      simp only [Value.cells, DataW.trod, hT] at hf
      split at hf
      · rename_i hb
        obtain ⟨hb1, hb2, hb3⟩ := hb
        simp only [Option.bind_eq_some_iff] at hf
        obtain ⟨elems, he, _⟩ := hf
        have hlen : elems.length = len := by simpa using Lib.mapM_length he
        have hex : ∀ i : Nat, i < len → ∃ y : α, (∀ j u, (encA y)[j]? = some u → w.cell? ((ad.add (i * k)).add j) = some u) ∧ (encA y).length = k ∧ Q y := by
          intro i hi
          obtain ⟨b, hb, hfb⟩ := Lib.mapM_at he i i (by simp [hi])
          obtain ⟨cs, hcs, htr⟩ := Option.bind_eq_some_iff.1 hfb
          rw [hce] at hcs
          obtain ⟨hl1, hc1⟩ := cells_of_read hcs
          obtain ⟨y, rfl, hQ⟩ := hel2 fuel cs b htr hl1
          exact ⟨y, hc1, hl1, hQ⟩
        obtain ⟨f, hf2⟩ : ∃ f : Nat → Option α, ∀ i, i < len → ∃ y, f i = some y ∧ (∀ j u, (encA y)[j]? = some u → w.cell? ((ad.add (i * k)).add j) = some u) ∧ (encA y).length = k ∧ Q y := by
          refine ⟨fun i => if hi : i < len then some (Classical.choose (hex i hi)) else none, fun i hi => ⟨_, dif_pos hi, Classical.choose_spec (hex i hi)⟩⟩
        have hxs : ∃ xs : List α, xs.length = len ∧ ∀ i y, xs[i]? = some y → f i = some y := by
          have : ∀ n, n ≤ len → ∃ xs : List α, xs.length = n ∧ ∀ i y, xs[i]? = some y → f i = some y := by
            intro n
            induction n with
            | zero => intro _; exact ⟨[], rfl, by simp⟩
            | succ n ih =>
              intro hn
              obtain ⟨xs, h1, h2⟩ := ih (by omega)
              obtain ⟨y, hy, _⟩ := hf2 n (by omega)
              refine ⟨xs ++ [y], by simp [h1], fun i z hz => ?_⟩
              rw [List.getElem?_append] at hz
              split at hz
              · exact h2 i z hz
              · rename_i hge
                have : i = n := by
                  have := (List.getElem?_eq_some_iff.1 hz).1
                  simp at this
                  omega
                subst this
                rw [h1, Nat.sub_self] at hz
                simp at hz
                rw [← hz]; exact hy
          exact this len (Nat.le_refl _)
        obtain ⟨xs, hxl, hxf⟩ := hxs
        refine ⟨xs, ⟨some ad, cap, by rw [hxl], by omega, hb3, fun i x hx => ?_⟩, fun x hx => ?_⟩
        · have hi : i < len := by rw [← hxl]; exact (List.getElem?_eq_some_iff.1 hx).1
          obtain ⟨y, hy, hc, hyl, _⟩ := hf2 i hi
          rw [hxf i x hx] at hy
          cases hy
          have hspot : ad.spot = none := by
            obtain ⟨y0, _, hc0, hl0, _⟩ := hf2 0 (by omega)
            obtain ⟨u, hu⟩ : ∃ u, (encA y0)[0]? = some u := ⟨_, List.getElem?_eq_getElem (by omega)⟩
            have := hc0 0 u hu
            simp only [Nat.zero_mul] at this
            have e0 : (ad.add 0).add 0 = ad := by simp [Addr.add]
            rw [e0] at this
            unfold World.cell? at this
            split at this
            · split at this
              · cases this
              · rename_i hs; simpa using hs
            · cases this
          obtain ⟨bb, oo, ss⟩ := ad
          dsimp only at hspot
          subst hspot
          refine ⟨bb, oo, rfl, fun j u hu => ?_⟩
          have := hc j u hu
          rw [add_addr, add_addr] at this
          exact this
        · obtain ⟨i, hi⟩ := List.getElem?_of_mem hx
          have hil : i < len := by rw [← hxl]; exact (List.getElem?_eq_some_iff.1 hi).1
          obtain ⟨y, hy, _, _, hQ⟩ := hf2 i hil
          rw [hxf i x hi] at hy
          cases hy
          exact hQ
      · cases hf

theorem open_sl {α : Type} {w : World} {r : Reach} {b0 : Nat} {T e k : Nat} {v : Value} {d : DataW H} {ps : List MemPlace} {sp : Nat → Bool} {hd : Bool} {encA : α → List Value} {Q : α → Prop} (hel : elQ P T = some e) (hk : szQ P e = k) (h0 : 0 < k)
    (hval : Value.okWide P w r b0 T v) (hel2 : ∀ fuel cs x, DataW.trod enc P w 0 sp hd fuel e cs = some x → cs.length = k → ∃ y, cs = encA y ∧ Q y) (h : DataW.Trod enc P w 0 sp hd T v d ps) :
    ∃ xs : List α, Sl w v k encA xs ∧ ∀ x ∈ xs, Q x := by
  obtain ⟨a, len, cap, rfl⟩ := okWide_slice (elQ_spec hel) hval
  exact open_slc hel hk h0 hel2 h

/-- Ints as elements. -/
theorem el_int {w : World} {e : Nat} {kd : IntKind} {sp : Nat → Bool} {hd : Bool} (hu : P.underlying e = some (.int kd)) : ∀ fuel cs x, DataW.trod enc P w 0 sp hd fuel e cs = some x → cs.length = 1 → ∃ y : Int, cs = [.int kd y] ∧ (Lit.int kd y).wf = true := by
  intro fuel cs x h _
  obtain ⟨n, h1, _, h2⟩ := DataW.trod_int hu h
  exact ⟨n, h1, h2⟩

theorem chunks {α : Type} {encA : α → List Value} {k : Nat} (hk : ∀ x, (encA x).length = k) : ∀ (zs : List α) (cs : List Value), cs.length = zs.length * k → (∀ i x, zs[i]? = some x → (cs.drop (i * k)).take k = encA x) → cs = zs.flatMap encA
  | [], cs, hl, _ => by simpa using hl
  | z :: zs, cs, hl, h => by
    have h0 := h 0 z rfl
    simp only [Nat.zero_mul, List.drop_zero] at h0
    have ih := chunks hk zs (cs.drop k) (by simp only [List.length_drop, hl, List.length_cons, Nat.add_mul]; omega) fun i x hx => by
      have := h (i + 1) x (by simpa using hx)
      rw [List.drop_drop]
      rwa [show k + i * k = (i + 1) * k from by rw [Nat.add_mul]; omega]
    rw [List.flatMap_cons, ← ih, ← h0, List.take_append_drop]

/-- A struct of two ints. -/
theorem read_two {w : World} {base : Nat} {sp : Nat → Bool} {hd : Bool} {fuel e : Nat} {cs : List Value} {f0 f1 : Field} {k0 k1 : IntKind} {x : DataW H × List MemPlace} (hu : P.underlying e = some (.struct #[f0, f1])) (h0 : f0.offset = 0) (h1 : f1.offset = 1)
    (t0 : P.underlying f0.type = some (.int k0)) (t1 : P.underlying f1.type = some (.int k1)) (c0 : P.cellsOf f0.type = 1) (c1 : P.cellsOf f1.type = 1) (ce : P.cellsOf e = 2) (h : DataW.trod enc P w base sp hd fuel e cs = some x) :
    ∃ a b, cs = [.int k0 a, .int k1 b] ∧ x.1 = .agg [.lit (.int k0 a), .lit (.int k1 b)] ∧ (Lit.int k0 a).wf = true ∧ (Lit.int k1 b).wf = true := by
  obtain ⟨y0, y1, n, rfl, hl, g0, g1⟩ := trod_struct2 hu h
  rw [ce] at hl
  match cs, hl with
  | [u, v], _ =>
    rw [h0, c0] at g0
    rw [h1, c1] at g1
    obtain ⟨a, ea, rfl, wa⟩ := DataW.trod_int t0 g0
    obtain ⟨b, eb, rfl, wb⟩ := DataW.trod_int t1 g1
    simp at ea eb
    subst ea eb
    exact ⟨a, b, rfl, rfl, wa, wb⟩

/-- An array variable that is listed, of structs of two ints. -/
theorem laid_two {W : World} {name : String} {zs : List (Int × Int)} {kk : IntKind} {rest : List (String × DataW Unit)} {g t e n : Nat} {ps : List MemPlace} {f0 f1 : Field} (hg : P.globalNamed name = some g) (hty : (P.globals[g]?).map (·.type) = some t) (ht : P.underlying t = some (.array n e))
    (hct : P.cellsOf t = n * 2) (hu : P.underlying e = some (.struct #[f0, f1])) (h0 : f0.offset = 0) (h1 : f1.offset = 1) (t0 : P.underlying f0.type = some (.int kk)) (t1 : P.underlying f1.type = some (.int kk)) (c0 : P.cellsOf f0.type = 1) (c1 : P.cellsOf f1.type = 1) (ce : P.cellsOf e = 2)
    (h : DataW.LaidVars P W ((name, .agg (zs.map fun z => .agg [.lit (.int kk z.1), .lit (.int kk z.2)])) :: rest) ps) :
    Cells W g 0 (zs.flatMap fun z => [Value.int kk z.1, .int kk z.2]) ∧ ∃ qs, DataW.LaidVars P W rest qs := by
  obtain ⟨g', t', cs, fuel, p, q, hg', ht', hvar, hd, hr, _⟩ := h
  obtain rfl := Option.some.inj (hg.symm.trans hg')
  obtain rfl := Option.some.inj (hty.symm.trans ht')
  refine ⟨?_, q, hr⟩
  obtain ⟨xs, m, _, hx, hl, hxl, hf⟩ := DataW.trod_array ht hd
  have hxs : xs.map (·.1) = zs.map fun z => (DataW.agg [.lit (.int kk z.1), .lit (.int kk z.2)] : DataW Unit) := by
    have := congrArg Prod.fst hx
    simpa using this.symm
  have hzl : zs.length = n := by
    have := congrArg List.length hxs
    simp at this
    omega
  have hcs : cs.toList = zs.flatMap fun z => [Value.int kk z.1, .int kk z.2] := by
    refine chunks (k := 2) (fun _ => rfl) zs cs.toList (by rw [hl, hct, hzl]) fun i x hx' => ?_
    have hi : i < n := by rw [← hzl]; exact (List.getElem?_eq_some_iff.1 hx').1
    have hfi := hf i hi
    rw [ce] at hfi
    have hxi : xs[i]? = some xs[i] := List.getElem?_eq_getElem (by omega)
    rw [hxi] at hfi
    obtain ⟨a, b, hc, hd', _, _⟩ := read_two hu h0 h1 t0 t1 c0 c1 ce hfi
    have h2 : (xs.map (·.1))[i]? = some (xs[i]).1 := by simp [hxi]
    rw [hxs, List.getElem?_map, hx'] at h2
    simp only [Option.map_some, Option.some.injEq] at h2
    rw [hd'] at h2
    simp only [DataW.agg.injEq, List.cons.injEq, DataW.lit.injEq, Lit.int.injEq, true_and, and_true] at h2
    rw [hc, h2.1, h2.2]
  intro i v hi
  have := World.var?_cell hg hvar i
  rw [Nat.zero_add, this, ← Array.getElem?_toList, hcs]
  exact hi
end
end Go.Lift
