/- How lines of flows are read. No conditions. -/
import Derived.Test.YtmlbaimdphillaaBt
import Derived.Test.YtmlbaimdphillaaF4
namespace Go.Proofs.Ytmlbaimdphillaa
namespace Base
open Go Go.Lift Go.RowKit Go.ChangeShapes Go.WideShapes Go.ChangeAt
variable {H : Type} {enc : TypeId × Value → H} {w : World} {sp : Nat → Bool} {hd : Bool}
theorem rd_Ln : Reads enc Try.prog w sp hd S.T.flow_Line fun cs => ∃ y : Ln, cs = encL y ∧ True := by
  intro fuel cs x h
  obtain ⟨hl, n0, y0, h0⟩ := rd_fld (i := 0) (off := 0) (sz := 1) (ty := S.T.int) (by kernel_rfl) h
  obtain ⟨_, n1, y1, h1⟩ := rd_fld (i := 1) (off := 1) (sz := 1) (ty := S.T.int) (by kernel_rfl) h
  obtain ⟨_, n2, y2, h2⟩ := rd_fld (i := 2) (off := 2) (sz := 1) (ty := S.T.int) (by kernel_rfl) h
  obtain ⟨_, n3, y3, h3⟩ := rd_fld (i := 3) (off := 3) (sz := 1) (ty := S.T.int) (by kernel_rfl) h
  rw [show Try.prog.cellsOf S.T.flow_Line = 4 from by kernel_rfl] at hl
  match cs, hl with
  | [u0, u1, u2, u3], _ =>
    obtain ⟨a, ha, _⟩ := rd_int (kd := .i64) (by kernel_rfl) _ _ _ h0
    obtain ⟨b, hb, _⟩ := rd_int (kd := .i64) (by kernel_rfl) _ _ _ h1
    obtain ⟨c, hc, _⟩ := rd_int (kd := .i64) (by kernel_rfl) _ _ _ h2
    obtain ⟨d, hd', _⟩ := rd_int (kd := .i64) (by kernel_rfl) _ _ _ h3
    simp at ha hb hc hd'
    subst ha hb hc hd'
    exact ⟨⟨a, b, c, d⟩, rfl, trivial⟩
theorem rd_Fs : Reads enc Try.prog w sp hd S.T.bodkinlaw22_Step fun cs => ∃ y : Stv, cs = encSt y ∧ ∃ xs, Sl w (sv y.2.2) 4 encL xs := by
  intro fuel cs x h
  obtain ⟨hl, n0, y0, h0⟩ := rd_fld (i := 0) (off := 0) (sz := 1) (ty := S.T.int) (by kernel_rfl) h
  obtain ⟨_, n1, y1, h1⟩ := rd_fld (i := 1) (off := 1) (sz := 1) (ty := S.T.int) (by kernel_rfl) h
  obtain ⟨_, n2, y2, h2⟩ := rd_fld (i := 2) (off := 2) (sz := 1) (ty := S.T.L_flow_Line) (by kernel_rfl) h
  rw [show Try.prog.cellsOf S.T.bodkinlaw22_Step = 3 from by kernel_rfl] at hl
  match cs, hl with
  | [u0, u1, u2], _ =>
    obtain ⟨a, ha, _⟩ := rd_int (kd := .i64) (by kernel_rfl) _ _ _ h0
    obtain ⟨b, hb, _⟩ := rd_int (kd := .i64) (by kernel_rfl) _ _ _ h1
    obtain ⟨c, hc, rs, hrs, _⟩ := rd_slice S.tel_L_flow_Line S.tsz_flow_Line (by decide) rd_Ln _ _ _ h2
    simp at ha hb hc
    subst ha hb hc
    exact ⟨(a, b, c), rfl, rs, hrs⟩
end Base
end Go.Proofs.Ytmlbaimdphillaa
