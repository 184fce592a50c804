/- What lies below and above, as lists. -/
import Derived.Test.YtmhbdgnajlnhnaaPlOf
import Derived.Test.YtmhbdgnajlnhnaaGClosed
namespace Go.Proofs.Ytmhbdgnajlnhnaa.Pl
open Go.RowKit Go.Proofs.YtmhbdgnajlnhnaaW.PrintWords Go.Proofs.Ytmhbdgnajlnhnaa.P
set_option linter.unusedVariables false
set_option linter.unusedSimpArgs false
theorem rch_rc {F : ByteArray → List ByteArray} {a b : ByteArray} : Rch F a b ↔ Rc F a b := by
  constructor
  · intro h
    induction h with
    | refl => exact Rc.refl a
    | step _ hc ih => exact ih.snoc hc
  · rintro ⟨n, h⟩
    induction n generalizing b with
    | zero => cases h; exact .refl a
    | succ n ih =>
      obtain ⟨c, hc, hb⟩ := stp_last h
      exact .step (ih hc) hb
open Classical in
noncomputable def belowG (G : GG) (l : List ByteArray) : List ByteArray := G.ns.filter (fun s => decide (∃ a, a ∈ l ∧ a ∈ G.ns ∧ Rc G.out a s))
theorem ss_belowG {G : GG} (hG : GOk G) (l : List ByteArray) : SS (belowG G l) := hG.rise.sublist List.filter_sublist
open Classical in
theorem mem_belowG {G : GG} (hG : GOk G) {l : List ByteArray} {s : ByteArray} : s ∈ belowG G l ↔ ∃ a, a ∈ l ∧ a ∈ G.ns ∧ Rc G.out a s := by
  unfold belowG
  rw [List.mem_filter, decide_eq_true_eq]
  exact ⟨fun h => h.2, fun h => ⟨by obtain ⟨a, _, ha, n, hs⟩ := h; exact stp_in hG hs ha, h⟩⟩
theorem belowG_len (G : GG) (l : List ByteArray) : (belowG G l).length ≤ G.ns.length := List.length_filter_le _ _
theorem mem_belowG' {G : GG} (hG : GOk G) {l : List ByteArray} {s : ByteArray} : s ∈ belowG G l ↔ ∃ a, a ∈ l ∧ a ∈ G.ns ∧ Rch G.out a s := by
  rw [mem_belowG hG]
  exact ⟨fun ⟨a, h1, h2, h3⟩ => ⟨a, h1, h2, rch_rc.2 h3⟩, fun ⟨a, h1, h2, h3⟩ => ⟨a, h1, h2, rch_rc.1 h3⟩⟩
theorem turn_fun {G : GG} (hG : GOk G) : (turnG G).out = G.inn := by funext s; exact turnG_out hG s
theorem mem_aboveG' {G : GG} (hG : GOk G) {l : List ByteArray} {s : ByteArray} : s ∈ belowG (turnG G) l ↔ ∃ a, a ∈ l ∧ a ∈ G.ns ∧ Rch G.inn a s := by
  rw [mem_belowG' (turnG_ok hG), turnG_ns hG, turn_fun hG]
/-- turned about twice, it is the graph again -/
theorem turn_turn {G : GG} (hG : GOk G) (s : ByteArray) : (turnG (turnG G)).out s = G.out s :=
  ss_uniq _ _ ((turnG_ok (turnG_ok hG)).outs s) (hG.outs s) (fun t => by rw [mem_turnG_out (turnG_ok hG), mem_turnG_out hG])
end Go.Proofs.Ytmhbdgnajlnhnaa.Pl
namespace Go.Proofs.Ytmhbdgnajlnhnaa.P
open Go.RowKit Go.Proofs.YtmhbdgnajlnhnaaW.PrintWords Go.Proofs.Ytmhbdgnajlnhnaa.Pl
section
variable {base p : Nat} {role : Nat → Role} {G : GG} {w : World}
theorem below_callsG (hg : GMem w base role p G) (A0 : Option Addr) (c0 : Nat) (l0 : List ByteArray) (hC : Kd.string.C w A0 l0.length l0) (hl : ∀ s, s ∈ l0 → s.size ≤ maxLen) (hll : l0.length ≤ 100000) :
    Calls Try.prog 17 #[.pointer (some ⟨p, 0, none⟩), .slice A0 l0.length c0] w (Rose w (belowG G l0)) :=
  below_calls hg A0 c0 l0 hC hl hll _ (ss_belowG hg.good l0) (fun _ => mem_belowG' hg.good)
theorem above_callsG (hg : GMem w base role p G) (A0 : Option Addr) (c0 : Nat) (l0 : List ByteArray) (hC : Kd.string.C w A0 l0.length l0) (hl : ∀ s, s ∈ l0 → s.size ≤ maxLen) (hll : l0.length ≤ 100000) :
    Calls Try.prog 20 #[.pointer (some ⟨p, 0, none⟩), .slice A0 l0.length c0] w (Rose w (belowG (turnG G) l0)) :=
  above_calls hg A0 c0 l0 hC hl hll _ (ss_belowG (turnG_ok hg.good) l0) (fun _ => mem_aboveG' hg.good)
end
end Go.Proofs.Ytmhbdgnajlnhnaa.P
