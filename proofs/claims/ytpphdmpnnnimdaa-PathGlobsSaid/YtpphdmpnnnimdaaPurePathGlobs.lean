/- A glob fits a text, or it does not, by the program as by the reference: texts of at most 1000 bytes each; longer ones are let go. No condition. -/
import Derived.Test.YtpphdmpnnnimdaaPlPathC
import Derived.Test.YtpphdmpnnnimdaaPlGlobD
import Derived.Test.YtpphdmpnnnimdaaPxf9
namespace Go.Proofs.Ytpphdmpnnnimdaa.Pure
open Go.RowKit Go.Proofs.Ytpphdmpnnnimdaa.P Go.Proofs.YtpphdmpnnnimdaaW.PrintWords Go.Proofs.YtpphdmpnnnimdaaW.PrintLast Go.Proofs.Ytpphdmpnnnimdaa.Pl

theorem globs_j0 (x y : ByteArray) (hx : x.size ≤ 1000000000) (hy : y.size ≤ 1000000000) (b : Bool) : Ev (fun k => brickyardlaw09_PathGlobs.j0 k x y b) true := by
  refine ev_succ ?_
  simp only [brickyardlaw09_PathGlobs.j0]
  cases b with
  | true => exact ev_ite_pos rfl (ev_const rfl)
  | false =>
    obtain ⟨r1, e1, i1⟩ := glob_ev x y (by omega) (by omega)
    obtain ⟨r2, e2, i2⟩ := refglob_ev x y hx hy
    have e : r1 = r2 := by rw [Bool.eq_iff_iff, i1, i2]
    subst e
    exact ev_ite_neg (by simp) (ev_bind e1 (ev_bind e2 (ev_const (by simp))))
theorem PathGlobs : brickyardlaw09_PathGlobs.Pure := by
  intro a0 a1 h0 h1
  refine Ev.rounds (r := true) ?_
  unfold brickyardlaw09_PathGlobs.f
  refine ev_bind (ev_const (show brickyardlaw09_works.f = some true from rfl)) (ev_ite_pos rfl ?_)
  have hend : Ev (fun k => brickyardlaw09_PathGlobs.j0 k a0 a1 true) true := by
    refine ev_succ ?_
    simp only [brickyardlaw09_PathGlobs.j0]
    exact ev_ite_pos trivial (ev_const rfl)
  by_cases h : (a0.size : Int) > 1000
  · exact ev_ite_pos h hend
  · refine ev_ite_neg h ?_
    by_cases h2 : (a1.size : Int) > 1000
    · rw [decide_eq_true h2]
      exact hend
    · exact globs_j0 a0 a1 (by omega) (by omega) _

end Go.Proofs.Ytpphdmpnnnimdaa.Pure
