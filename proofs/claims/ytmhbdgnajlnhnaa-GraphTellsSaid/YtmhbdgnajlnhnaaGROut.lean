/- The reference's Out, called. -/
import Derived.Test.YtmhbdgnajlnhnaaPlRefO
namespace Go.Proofs.Ytmhbdgnajlnhnaa.P
open Go.RowKit Go.Maps Go.MapKept Go.ChangeMaps Go.Proofs.YtmhbdgnajlnhnaaW.PrintWords Go.Proofs.YtmhbdgnajlnhnaaW.PrintLast Go.Proofs.YtmhbdgnajlnhnaaW.PrintMore Go.Proofs.Ytmhbdgnajlnhnaa.Pl
set_option linter.unusedVariables false
set_option linter.unusedSimpArgs false
section
variable {G : GG} {E : List S45} {w : World}
theorem rout_calls (h : RG G E) (A0 : Option Addr) (c0 : Nat) (A1 : Option Addr) (c1 : Nat) (W : World) (h0 : Kd.C Kd.string W A0 G.ns.length G.ns) (hc0 : G.ns.length ≤ c0) (h1 : Kd.C k45 W A1 E.length E) (hc1 : E.length ≤ c1) (a : ByteArray) :
    Calls Try.prog 30 #[.agg #[.slice A0 G.ns.length c0, .slice A1 E.length c1], .string a] W fun e w' => ∃ v : Value, e = .returned v ∧ Kd.R Kd.string 9 w' W.heap.size (fun _ => True) v (G.out a) ∧ Below W.heap.size W w' := by
  obtain ⟨k, hk⟩ := ev_some (h.out_ev a)
  exact brickyardref19_Out.calls k A0 c0 G.ns A1 c1 E a (G.out a) W h0 hc0 h1 hc1 hk
end
end Go.Proofs.Ytmhbdgnajlnhnaa.P
