/- Every text of at most 2^20 bytes comes to one and the same form by the program and by the reference; longer ones are let go. No condition. -/
import Derived.Test.YtpphdmpnnnimdaaPlPathC
import Derived.Test.YtpphdmpnnnimdaaPxf3
namespace Go.Proofs.Ytpphdmpnnnimdaa.Pure
open Go.RowKit Go.Proofs.Ytpphdmpnnnimdaa.P Go.Proofs.YtpphdmpnnnimdaaW.PrintWords Go.Proofs.YtpphdmpnnnimdaaW.PrintLast Go.Proofs.Ytpphdmpnnnimdaa.Pl

theorem PathNorms : brickyardlaw09_PathNorms.Pure := by
  intro a0 ha
  refine Ev.rounds (r := true) ?_
  simp only [brickyardlaw09_PathNorms.f, brickyardlaw09_works.f, brickyardlaw09_long.f, Option.bind_some]
  refine ev_ite_pos trivial ?_
  by_cases h : (a0.size : Int) > 1048576
  · exact ev_ite_pos (decide_eq_true h) (ev_const rfl)
  · refine ev_ite_neg (by simpa using h) ?_
    refine ev_bind (pathnorm_ev a0 (by omega)) (ev_bind (refnorm_ev a0 (by omega)) ?_)
    exact ev_ite_pos rfl (ev_const (by simp))

end Go.Proofs.Ytpphdmpnnnimdaa.Pure
