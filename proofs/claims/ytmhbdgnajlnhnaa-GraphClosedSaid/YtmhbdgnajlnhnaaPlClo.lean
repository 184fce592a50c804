/- What lies below, again and of two lists. -/
import Derived.Test.YtmhbdgnajlnhnaaPlBel
namespace Go.Proofs.Ytmhbdgnajlnhnaa.Pl
open Go.RowKit Go.Proofs.YtmhbdgnajlnhnaaW.PrintWords Go.Proofs.Ytmhbdgnajlnhnaa.P
set_option linter.unusedVariables false
set_option linter.unusedSimpArgs false
theorem below_in {G : GG} (hG : GOk G) {l : List ByteArray} {s : ByteArray} (h : s ∈ belowG G l) : s ∈ G.ns := by
  obtain ⟨a, _, ha, n, hs⟩ := (mem_belowG hG).1 h
  exact stp_in hG hs ha
theorem below_out {G : GG} (hG : GOk G) {l : List ByteArray} {s t : ByteArray} (h : s ∈ belowG G l) (ht : t ∈ G.out s) : t ∈ belowG G l := by
  obtain ⟨a, h1, h2, h3⟩ := (mem_belowG hG).1 h
  exact (mem_belowG hG).2 ⟨a, h1, h2, h3.snoc ht⟩
theorem below_below {G : GG} (hG : GOk G) (l : List ByteArray) : belowG G (belowG G l) = belowG G l :=
  ss_uniq _ _ (ss_belowG hG _) (ss_belowG hG _) (fun s => by
    constructor
    · intro h
      obtain ⟨a, h1, h2, h3⟩ := (mem_belowG hG).1 h
      exact Rc.closed (fun s hs t ht => below_out hG hs ht) h1 h3
    · intro h
      exact (mem_belowG hG).2 ⟨s, h, below_in hG h, Rc.refl s⟩)
theorem below_both {G : GG} (hG : GOk G) (a b : List ByteArray) : belowG G (a ++ b) = srt (belowG G a ++ belowG G b) :=
  ss_uniq _ _ (ss_belowG hG _) (ss_srt _) (fun s => by
    rw [mem_srt, List.mem_append, mem_belowG hG, mem_belowG hG, mem_belowG hG]
    constructor
    · rintro ⟨x, h1, h2⟩
      rcases List.mem_append.1 h1 with h | h
      · exact .inl ⟨x, h, h2⟩
      · exact .inr ⟨x, h, h2⟩
    · rintro (⟨x, h, h2⟩ | ⟨x, h, h2⟩)
      · exact ⟨x, List.mem_append.2 (.inl h), h2⟩
      · exact ⟨x, List.mem_append.2 (.inr h), h2⟩)
theorem below_turned {G : GG} (hG : GOk G) (l : List ByteArray) : belowG (turnG (turnG G)) l = belowG G l := by
  have h1 : (turnG (turnG G)).out = G.out := funext (turn_turn hG)
  have h2 : (turnG (turnG G)).ns = G.ns := by rw [turnG_ns (turnG_ok hG), turnG_ns hG]
  unfold belowG
  rw [h1, h2]
end Go.Proofs.Ytmhbdgnajlnhnaa.Pl
