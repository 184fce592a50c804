/- The reference's Below, called. -/
import Derived.Test.YtmhbdgnajlnhnaaPlBel
import Derived.Test.YtmhbdgnajlnhnaaPlRefBel
namespace Go.Proofs.Ytmhbdgnajlnhnaa.P
open Go.RowKit Go.Proofs.YtmhbdgnajlnhnaaW.PrintWords Go.Proofs.Ytmhbdgnajlnhnaa.Pl
section
variable {base p : Nat} {role : Nat → Role} {G : GG} {w : World}
theorem rbelow_calls {E : List S45} (h : RG G E) (A0 : Option Addr) (c0 : Nat) (A1 : Option Addr) (c1 : Nat) (A2 : Option Addr) (c2 : Nat) (l : List ByteArray) (W : World) (h0 : Kd.C Kd.string W A0 G.ns.length G.ns) (hc0 : G.ns.length ≤ c0) (h1 : Kd.C k45 W A1 E.length E) (hc1 : E.length ≤ c1) (h2 : Kd.C Kd.string W A2 l.length l) (hc2 : l.length ≤ c2) (hl : l.length ≤ 100000) :
    Calls Try.prog 19 #[.agg #[.slice A0 G.ns.length c0, .slice A1 E.length c1], .slice A2 l.length c2] W fun e w' => ∃ v : Value, e = .returned v ∧ Kd.R Kd.string 9 w' W.heap.size (fun _ => True) v (belowG G l) ∧ Below W.heap.size W w' := by
  obtain ⟨k, hk⟩ := ev_some (rbelow_ev h l hl (ss_belowG h.ok l) (fun _ => mem_belowG h.ok))
  exact brickyardref19_Below.calls k A0 c0 G.ns A1 c1 E A2 c2 l (belowG G l) W h0 hc0 h1 hc1 h2 hc2 hk
end
end Go.Proofs.Ytmhbdgnajlnhnaa.P
