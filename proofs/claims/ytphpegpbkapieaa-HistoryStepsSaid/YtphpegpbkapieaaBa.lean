/- What the seat's rows share: how operations of a history are read. No conditions. -/
import Derived.Test.YtphpegpbkapieaaW1
import Derived.Test.YtphpegpbkapieaaRd
namespace Go.Proofs.Ytphpegpbkapieaa
namespace Base
open Go Go.Lift Go.RowKit Go.ChangeShapes Go.WideShapes Go.ChangeAt
theorem own : ownKnob Try.prog.godebug = none := by kernel_rfl
theorem laidOut : laidOutB Try.prog = true := by kernel_rfl
variable {H : Type} {enc : TypeId × Value → H} {w : World} {sp : Nat → Bool} {hd : Bool}
theorem rd_Ed : Reads enc Try.prog w sp hd S.T.api_Edit fun cs => ∃ y : Ed, cs = encE y ∧ True := by
  intro fuel cs x h
  obtain ⟨hl, n0, y0, h0⟩ := rd_fld (i := 0) (off := 0) (sz := 1) (ty := S.T.int) (by kernel_rfl) h
  obtain ⟨_, n1, y1, h1⟩ := rd_fld (i := 1) (off := 1) (sz := 1) (ty := S.T.int) (by kernel_rfl) h
  obtain ⟨_, n2, y2, h2⟩ := rd_fld (i := 2) (off := 2) (sz := 1) (ty := S.T.string) (by kernel_rfl) h
  rw [show Try.prog.cellsOf S.T.api_Edit = 3 from by kernel_rfl] at hl
  match cs, hl with
  | [u0, u1, u2], _ =>
    obtain ⟨a, ha, _⟩ := rd_int (kd := .i64) (by kernel_rfl) _ _ _ h0
    obtain ⟨b, hb, _⟩ := rd_int (kd := .i64) (by kernel_rfl) _ _ _ h1
    obtain ⟨c, hc, _⟩ := rd_str (by kernel_rfl) _ _ _ h2
    simp at ha hb hc
    subst ha hb hc
    exact ⟨(a, b, c), rfl, trivial⟩
theorem rd_Op : Reads enc Try.prog w sp hd S.T.bodkinlaw12_Op fun cs => ∃ y : Int × SV × SV, cs = encO y ∧ (∃ bs, Sl w (sv y.2.1) 3 encE bs) ∧ ∃ fs, Sl w (sv y.2.2) 3 encE fs := by
  intro fuel cs x h
  obtain ⟨hl, n0, y0, h0⟩ := rd_fld (i := 0) (off := 0) (sz := 1) (ty := S.T.int) (by kernel_rfl) h
  obtain ⟨_, n1, y1, h1⟩ := rd_fld (i := 1) (off := 1) (sz := 1) (ty := S.T.L_api_Edit) (by kernel_rfl) h
  obtain ⟨_, n2, y2, h2⟩ := rd_fld (i := 2) (off := 2) (sz := 1) (ty := S.T.L_api_Edit) (by kernel_rfl) h
  rw [show Try.prog.cellsOf S.T.bodkinlaw12_Op = 3 from by kernel_rfl] at hl
  match cs, hl with
  | [u0, u1, u2], _ =>
    obtain ⟨a, ha, _⟩ := rd_int (kd := .i64) (by kernel_rfl) _ _ _ h0
    obtain ⟨b, hb, bs, hbs, _⟩ := rd_slice S.tel_L_api_Edit S.tsz_api_Edit (by decide) rd_Ed _ _ _ h1
    obtain ⟨c, hc, fs, hfs, _⟩ := rd_slice S.tel_L_api_Edit S.tsz_api_Edit (by decide) rd_Ed _ _ _ h2
    simp at ha hb hc
    subst ha hb hc
    exact ⟨(a, b, c), rfl, ⟨bs, hbs⟩, fs, hfs⟩
end Base
end Go.Proofs.Ytphpegpbkapieaa
