/- How items, steps and pairs of ints are read. No conditions. -/
import Derived.Test.YtmlbaimdphillaaU7
import Derived.Test.YtmlbaimdphillaaRd
namespace Go.Proofs.Ytmlbaimdphillaa
namespace Base
open Go Go.Lift Go.RowKit Go.ChangeShapes Go.WideShapes Go.ChangeAt
theorem own : ownKnob Try.prog.godebug = none := by kernel_rfl
theorem laidOut : laidOutB Try.prog = true := by kernel_rfl
variable {H : Type} {enc : TypeId × Value → H} {w : World} {sp : Nat → Bool} {hd : Bool}
theorem rd_elm {P : Program} {T e n i fuel : Nat} {cs : List Value} {x : DataW H × List MemPlace} (hu : P.underlying T = some (.array n e)) (hi : i < n) (h : DataW.trod enc P w 0 sp hd fuel T cs = some x) : cs.length = P.cellsOf T ∧ ∃ m y, DataW.trod enc P w 0 sp hd m e ((cs.drop (i * P.cellsOf e)).take (P.cellsOf e)) = some y := by
  obtain ⟨xs, m, _, _, hl, hlen, hall⟩ := DataW.trod_array hu h
  exact ⟨hl, m, xs[i]'(by omega), by rw [hall i hi]; exact List.getElem?_eq_getElem (by omega)⟩
theorem rd_A2 : Reads enc Try.prog w sp hd S.T.A2_int fun cs => ∃ y : Int × Int, cs = encA2 y.1 y.2 ∧ True := by
  intro fuel cs x h
  obtain ⟨hl, n0, y0, h0⟩ := rd_elm (T := S.T.A2_int) (e := S.T.int) (n := 2) (i := 0) (by kernel_rfl) (by decide) h
  obtain ⟨_, n1, y1, h1⟩ := rd_elm (T := S.T.A2_int) (e := S.T.int) (n := 2) (i := 1) (by kernel_rfl) (by decide) h
  rw [show Try.prog.cellsOf S.T.int = 1 from by kernel_rfl] at h0 h1
  rw [show Try.prog.cellsOf S.T.A2_int = 2 from by kernel_rfl] at hl
  match cs, hl with
  | [u0, u1], _ =>
    obtain ⟨a, ha, _⟩ := rd_int (kd := .i64) (by kernel_rfl) _ _ _ h0
    obtain ⟨b, hb, _⟩ := rd_int (kd := .i64) (by kernel_rfl) _ _ _ h1
    simp at ha hb
    subst ha hb
    exact ⟨(a, b), rfl, trivial⟩
theorem rd_A3 : Reads enc Try.prog w sp hd S.T.A3_int fun cs => ∃ a b c : Int, cs = [.int .i64 a, .int .i64 b, .int .i64 c] := by
  intro fuel cs x h
  obtain ⟨hl, n0, y0, h0⟩ := rd_elm (T := S.T.A3_int) (e := S.T.int) (n := 3) (i := 0) (by kernel_rfl) (by decide) h
  obtain ⟨_, n1, y1, h1⟩ := rd_elm (T := S.T.A3_int) (e := S.T.int) (n := 3) (i := 1) (by kernel_rfl) (by decide) h
  obtain ⟨_, n2, y2, h2⟩ := rd_elm (T := S.T.A3_int) (e := S.T.int) (n := 3) (i := 2) (by kernel_rfl) (by decide) h
  rw [show Try.prog.cellsOf S.T.int = 1 from by kernel_rfl] at h0 h1 h2
  rw [show Try.prog.cellsOf S.T.A3_int = 3 from by kernel_rfl] at hl
  match cs, hl with
  | [u0, u1, u2], _ =>
    obtain ⟨a, ha, _⟩ := rd_int (kd := .i64) (by kernel_rfl) _ _ _ h0
    obtain ⟨b, hb, _⟩ := rd_int (kd := .i64) (by kernel_rfl) _ _ _ h1
    obtain ⟨c, hc, _⟩ := rd_int (kd := .i64) (by kernel_rfl) _ _ _ h2
    simp at ha hb hc
    subst ha hb hc
    exact ⟨a, b, c, rfl⟩
theorem rd_It : Reads enc Try.prog w sp hd S.T.item_Item fun cs => ∃ y : It, cs = encT y ∧ True := by
  intro fuel cs x h
  obtain ⟨hl, n0, y0, h0⟩ := rd_fld (i := 0) (off := 0) (sz := 1) (ty := S.T.int) (by kernel_rfl) h
  obtain ⟨_, n1, y1, h1⟩ := rd_fld (i := 1) (off := 1) (sz := 1) (ty := S.T.int) (by kernel_rfl) h
  obtain ⟨_, n2, y2, h2⟩ := rd_fld (i := 2) (off := 2) (sz := 3) (ty := S.T.A3_int) (by kernel_rfl) h
  obtain ⟨_, n3, y3, h3⟩ := rd_fld (i := 3) (off := 5) (sz := 1) (ty := S.T.int) (by kernel_rfl) h
  obtain ⟨_, n4, y4, h4⟩ := rd_fld (i := 4) (off := 6) (sz := 1) (ty := S.T.string) (by kernel_rfl) h
  rw [show Try.prog.cellsOf S.T.item_Item = 7 from by kernel_rfl] at hl
  match cs, hl with
  | [u0, u1, u2, u3, u4, u5, u6], _ =>
    obtain ⟨a, ha, _⟩ := rd_int (kd := .i64) (by kernel_rfl) _ _ _ h0
    obtain ⟨b, hb, _⟩ := rd_int (kd := .i64) (by kernel_rfl) _ _ _ h1
    obtain ⟨c, d, e, hc⟩ := rd_A3 _ _ _ h2
    obtain ⟨f, hf, _⟩ := rd_int (kd := .i64) (by kernel_rfl) _ _ _ h3
    obtain ⟨g, hg, _⟩ := rd_str (by kernel_rfl) _ _ _ h4
    simp at ha hb hc hf hg
    obtain ⟨rfl, rfl, rfl⟩ := hc
    subst ha hb hf hg
    exact ⟨⟨a, b, c, d, e, f, g⟩, rfl, trivial⟩
theorem rd_St : Reads enc Try.prog w sp hd S.T.bodkinlaw05_Step fun cs => ∃ y : Stv, cs = encSt y ∧ ∃ xs, Sl w (sv y.2.2) 7 encT xs := by
  intro fuel cs x h
  obtain ⟨hl, n0, y0, h0⟩ := rd_fld (i := 0) (off := 0) (sz := 1) (ty := S.T.int) (by kernel_rfl) h
  obtain ⟨_, n1, y1, h1⟩ := rd_fld (i := 1) (off := 1) (sz := 1) (ty := S.T.int) (by kernel_rfl) h
  obtain ⟨_, n2, y2, h2⟩ := rd_fld (i := 2) (off := 2) (sz := 1) (ty := S.T.L_item_Item) (by kernel_rfl) h
  rw [show Try.prog.cellsOf S.T.bodkinlaw05_Step = 3 from by kernel_rfl] at hl
  match cs, hl with
  | [u0, u1, u2], _ =>
    obtain ⟨a, ha, _⟩ := rd_int (kd := .i64) (by kernel_rfl) _ _ _ h0
    obtain ⟨b, hb, _⟩ := rd_int (kd := .i64) (by kernel_rfl) _ _ _ h1
    obtain ⟨c, hc, rs, hrs, _⟩ := rd_slice S.tel_L_item_Item S.tsz_item_Item (by decide) rd_It _ _ _ h2
    simp at ha hb hc
    subst ha hb hc
    exact ⟨(a, b, c), rfl, rs, hrs⟩
end Base
end Go.Proofs.Ytmlbaimdphillaa
