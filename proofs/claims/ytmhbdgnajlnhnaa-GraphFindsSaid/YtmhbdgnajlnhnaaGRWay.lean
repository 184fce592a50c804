/- The reference's Way, called. -/
import Derived.Test.YtmhbdgnajlnhnaaPlRefF
namespace Go.Proofs.Ytmhbdgnajlnhnaa.P
open Go.RowKit Go.Maps Go.MapKept Go.ChangeMaps Go.Proofs.YtmhbdgnajlnhnaaW.PrintWords Go.Proofs.YtmhbdgnajlnhnaaW.PrintLast Go.Proofs.YtmhbdgnajlnhnaaW.PrintMore Go.Proofs.Ytmhbdgnajlnhnaa.Pl
set_option linter.unusedVariables false
set_option linter.unusedSimpArgs false
section
variable {G : GG} {E : List S45} {w : World}
theorem rway_calls (h : RG G E) (A0 : Option Addr) (c0 : Nat) (A1 : Option Addr) (c1 : Nat) (W : World) (h0 : Kd.C Kd.string W A0 G.ns.length G.ns) (hc0 : G.ns.length ≤ c0) (h1 : Kd.C k45 W A1 E.length E) (hc1 : E.length ≤ c1) (a b : ByteArray) :
    Calls Try.prog 15 #[.agg #[.slice A0 G.ns.length c0, .slice A1 E.length c1], .string a, .string b] W fun e w' => ∃ v : Value, e = .returned (.tuple #[v, .bool (wayG G a b).2]) ∧ Kd.R Kd.string 9 w' W.heap.size (fun _ => True) v (wayG G a b).1 ∧ Below W.heap.size W w' := by
  obtain ⟨k, hk⟩ := ev_some (way_ev h a b)
  exact brickyardref19_Way.calls k A0 c0 G.ns A1 c1 E a b (wayG G a b).1 (wayG G a b).2 W h0 hc0 h1 hc1 hk
end
end Go.Proofs.Ytmhbdgnajlnhnaa.P
