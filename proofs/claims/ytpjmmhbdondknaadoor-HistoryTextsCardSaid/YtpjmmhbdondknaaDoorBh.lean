/- How batches of batches are read, with what each text weighs; the base of the row of texts. No conditions. -/
import Derived.Test.YtpjmmhbdondknaaDoorBb
import Derived.Test.YtpjmmhbdondknaaDoorH7
namespace Go.Lift
open Go Go.RowKit Go.ChangeShapes Go.WideShapes Go.ChangeAt
section
variable {H : Type} {enc : TypeId × Value → H} {P : Program} {w : World} {sp : Nat → Bool} {hd : Bool}
theorem all_mem {P : Program} {e : TypeId} {n : Nat} {d : DataW H} : ∀ {l : List (DataW H)}, d ∈ l → n ∈ d.weights P e → n ∈ DataW.weightsAll P e l
  | x :: l, h, hn => by
    rw [DataW.weightsAll, List.mem_append]
    rcases List.mem_cons.1 h with rfl | h
    · exact .inl hn
    · exact .inr (all_mem h hn)
/-- What the places of a slice that is read are read as, and what that weighs. -/
theorem sl_reads {α : Type} {T e k fuel B : Nat} {v : Value} {encA : α → List Value} {xs : List α} {x : DataW H × List MemPlace} (hel : elQ P T = some e) (hk : szQ P e = k) (h0 : 0 < k) (henc : Enc encA k) (hs : Sl w v k encA xs)
    (h : DataW.trod enc P w 0 sp hd fuel T [v] = some x) (hW : ∀ n ∈ x.1.weights P T, n ≤ B) : ∀ y ∈ xs, ∃ n z, DataW.trod enc P w 0 sp hd n e (encA y) = some z ∧ ∀ m ∈ z.1.weights P e, m ≤ B := by
  have hT := elQ_spec hel
  have hce : P.cellsOf e = k := by
    unfold szQ at hk
    unfold Program.cellsOf
    cases hi : P.info? e with
    | none => rw [hi] at hk; dsimp only at hk; omega
    | some i => rw [hi] at hk; simpa using hk
  obtain ⟨a, cap, rfl, g1, g2, g3⟩ := hs
  intro y hy
  obtain ⟨i, hi⟩ := List.getElem?_of_mem hy
  have hlt := (List.getElem?_eq_some_iff.1 hi).1
  rcases DataW.trod_slice hT h with ⟨hc, _⟩ | ⟨ad, len, cap', elems, rest, n, _, hc, rfl, _, _, _, hel2, hall, _⟩
  · simp at hc
    omega
  · simp only [List.cons.injEq, Value.slice.injEq, and_true] at hc
    obtain ⟨rfl, rfl, rfl⟩ := hc
    have hb := hall i hlt
    obtain ⟨z, hz⟩ : ∃ z, elems[i]? = some z := ⟨_, List.getElem?_eq_getElem (by omega)⟩
    rw [hz] at hb
    obtain ⟨cs, hcs, htr⟩ := Option.bind_eq_some_iff.1 hb
    rw [hce] at hcs
    obtain ⟨hl1, hc1⟩ := cells_of_read hcs
    obtain ⟨b, o, hbo, hcell⟩ := g3 i y hi
    have heq : cs = encA y := by
      refine List.ext_getElem? fun j => ?_
      rcases Nat.lt_or_ge j k with hj | hj
      · obtain ⟨u, hu⟩ : ∃ u, cs[j]? = some u := ⟨_, List.getElem?_eq_getElem (by omega)⟩
        obtain ⟨u', hu'⟩ : ∃ u', (encA y)[j]? = some u' := ⟨_, List.getElem?_eq_getElem (by rw [henc.len]; omega)⟩
        have h1 := hc1 j u hu
        have h2 := hcell j u' hu'
        simp only [Option.some.injEq] at hbo
        rw [hbo, add_addr, add_addr, h2] at h1
        rw [hu, hu', h1]
      · rw [List.getElem?_eq_none (by omega), List.getElem?_eq_none (by rw [henc.len]; omega)]
    subst heq
    refine ⟨n, z, htr, fun m hm => hW m ?_⟩
    simp only [DataW.weights, hT]
    exact List.mem_cons_of_mem _ (List.mem_append_left _ (all_mem (List.mem_map.2 ⟨z, List.mem_of_getElem? hz, rfl⟩) hm))
theorem w_second {t0 t1 : TypeId} {ts : List TypeId} {d0 d1 : DataW H} {r : List (DataW H)} (h : (DataW.weightsEach P (t0 :: t1 :: ts) (d0 :: d1 :: r)).all (· ≤ reachBytes) = true) : ∀ n ∈ d1.weights P t1, n ≤ 140737488355328 := fun n hn => by
  have := List.all_eq_true.1 h n (by
    rw [DataW.weightsEach, DataW.weightsEach]
    exact List.mem_append_right _ (List.mem_append_left _ hn))
  have h2 : n ≤ reachBytes := of_decide_eq_true this
  have h3 : reachBytes ≤ 140737488355328 := by unfold reachBytes; exact (by decide)
  exact Nat.le_trans h2 h3
end
end Go.Lift
namespace Go.Proofs.YtpjmmhbdondknaaDoor
namespace Base
open Go Go.Lift Go.RowKit Go.ChangeShapes Go.WideShapes Go.ChangeAt Go.Txt
theorem fld_at {P : Program} {e i off sz ty : Nat} {fs : Array Field} (hu : P.underlying e = some (.struct fs)) (hq : fdQ P e i = some (off, sz, ty)) : ∃ f, fs[i]? = some f ∧ f.offset = off ∧ P.cellsOf f.type = sz ∧ f.type = ty := by
  unfold fdQ at hq
  rw [hu] at hq
  simp only [Option.map_eq_some_iff] at hq
  obtain ⟨f, hf, he⟩ := hq
  cases he
  exact ⟨f, hf, rfl, rfl, rfl⟩
theorem each_mem {HH : Type} {P : Program} {n : Nat} : ∀ {ts : List TypeId} {ds : List (DataW HH)} {i : Nat} {t : TypeId} {d : DataW HH}, ts[i]? = some t → ds[i]? = some d → n ∈ d.weights P t → n ∈ DataW.weightsEach P ts ds
  | [], _, _, _, _, h, _, _ => by simp at h
  | _ :: _, [], _, _, _, _, h, _ => by simp at h
  | t :: ts, d :: ds, 0, _, _, h1, h2, hn => by
    simp only [List.getElem?_cons_zero, Option.some.injEq] at h1 h2
    subst h1 h2
    rw [DataW.weightsEach]
    exact List.mem_append_left _ hn
  | t :: ts, d :: ds, i + 1, _, _, h1, h2, hn => by
    simp only [List.getElem?_cons_succ] at h1 h2
    rw [DataW.weightsEach]
    exact List.mem_append_right _ (each_mem h1 h2 hn)
theorem ed_weight {HH : Type} {enc : TypeId × Value → HH} {w : World} {sp : Nat → Bool} {hd : Bool} {n B : Nat} {x : Ed} {z : DataW HH × List MemPlace} (h : DataW.trod enc Tryd.prog w 0 sp hd n S.T.api_Edit (encE x) = some z) (hW : ∀ m ∈ z.1.weights Tryd.prog S.T.api_Edit, m ≤ B) : x.2.2.length ≤ B := by
  obtain ⟨fs, hu⟩ : ∃ fs, Tryd.prog.underlying S.T.api_Edit = some (.struct fs) := ⟨_, Tryd.underlying45⟩
  obtain ⟨f, hf, ho, hc, ht⟩ := fld_at hu (show fdQ Tryd.prog S.T.api_Edit 2 = some (2, 1, S.T.string) by kernel_rfl)
  obtain ⟨xs, n', _, rfl, hl, hlen, hall⟩ := DataW.trod_struct hu h
  have h2 := hall 2 f hf
  have hlt := (Array.getElem?_eq_some_iff.1 hf).1
  obtain ⟨p, hp⟩ : ∃ p, xs[2]? = some p := ⟨_, List.getElem?_eq_getElem (by omega)⟩
  rw [ho, hc, ht, hp, show ((encE x).drop 2).take 1 = [tv x.2.2] from rfl] at h2
  obtain ⟨g, hg, hpd, _⟩ := DataW.trod_string (by kernel_rfl) h2
  have hgl : g.data.toList = x.2.2 := by
    have h3 := tv_of g
    rw [← (List.cons.inj hg).1] at h3
    exact (tv_inj h3).symm
  refine hW _ ?_
  simp only [DataW.weights, hu]
  refine each_mem (i := 2) (t := f.type) (d := p.1) (by simp [hf]) (by simp [hp]) ?_
  rw [hpd]
  simp [DataW.weights, hgl]
theorem rd_Eds {HH : Type} {enc : TypeId × Value → HH} {w : World} {sp : Nat → Bool} {hd : Bool} : Reads enc Tryd.prog w sp hd S.T.L_api_Edit fun cs => ∃ y : SV, cs = H.encL y ∧ ∃ es : List Ed, Sl w (sv y) 3 encE es := by
  intro fuel cs x h
  obtain ⟨v, rfl, es, hs, _⟩ := rd_slice (k := 3) (encA := encE) (T := S.T.L_api_Edit) S.tel_L_api_Edit S.tsz_api_Edit (by decide) rd_Ed fuel cs x h
  exact ⟨v, rfl, es, hs⟩
theorem encL_ok : Enc H.encL 1 := ⟨fun _ => rfl, fun x u hu => by simp at hu; subst hu; rfl⟩
set_option maxRecDepth 100000 in
/-- Batches that are read: their texts are ones that a process can hold. -/
theorem open_eds {HH : Type} {enc : TypeId × Value → HH} {w : World} {r : Reach} {b0 : Nat} {v : Value} {d : DataW HH} {ps : List MemPlace} {sp : Nat → Bool} {hd : Bool} (hval : Value.okWide Tryd.prog w r b0 47 v) (h : DataW.Trod enc Tryd.prog w 0 sp hd 47 v d ps)
    (hW : ∀ n ∈ d.weights Tryd.prog 47, n ≤ 140737488355328) : ∃ ls : List SV, Sl w v 1 H.encL ls ∧ ∀ y ∈ ls, ∃ es : List Ed, Sl w (sv y) 3 encE es ∧ FitB es := by
  obtain ⟨ls, hl, hq⟩ := open_sl (k := 1) (encA := H.encL) (Q := fun y => ∃ es : List Ed, Sl w (sv y) 3 encE es) S.tel_L_L_api_Edit S.tsz_L_api_Edit Nat.one_pos hval (fun fuel cs x h _ => rd_Eds fuel cs x h) h
  refine ⟨ls, hl, fun y hy => ?_⟩
  obtain ⟨es, hes⟩ := hq y hy
  refine ⟨es, hes, ?_⟩
  obtain ⟨fuel, hf⟩ := h
  have hvc : v.cells.toList = [v] := by obtain ⟨a, cap, rfl, _⟩ := hl; rfl
  rw [hvc] at hf
  obtain ⟨n, z, hz, hzW⟩ := sl_reads S.tel_L_L_api_Edit S.tsz_L_api_Edit (by decide) encL_ok hl hf hW y hy
  intro x hx
  obtain ⟨n2, z2, hz2, hz2W⟩ := sl_reads S.tel_L_api_Edit S.tsz_api_Edit (by decide) encE_ok hes hz hzW x hx
  exact ed_weight hz2 hz2W
theorem texts_law {w : World} (hM : Mo w) (s : List UInt8) {v : Value} {ls : List SV} (hl : Sl w v 1 H.encL ls) (hall : ∀ y ∈ ls, ∃ es : List Ed, Sl w (sv y) 3 encE es ∧ FitB es) : S.bodkinlaw12_HistoryTexts (fun u w' => Ext w w' ∧ u = .bool true) (tv s) v w := H.historyTexts_spec hM s hl hall
end Base
end Go.Proofs.YtpjmmhbdondknaaDoor
