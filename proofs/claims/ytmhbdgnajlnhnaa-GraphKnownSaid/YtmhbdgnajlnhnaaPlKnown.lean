/- The document's examples of chapter 19: what the plain graph says of them. -/
import Derived.Test.YtmhbdgnajlnhnaaGLawBase
import Derived.Test.YtmhbdgnajlnhnaaPlCyc
import Derived.Test.YtmhbdgnajlnhnaaPlBel
namespace Go.Proofs.Ytmhbdgnajlnhnaa.Pl
open Go.RowKit Go.Proofs.YtmhbdgnajlnhnaaW.PrintWords Go.Proofs.Ytmhbdgnajlnhnaa.P
set_option linter.unusedVariables false
set_option linter.unusedSimpArgs false
def closedB (G : GG) (T : List ByteArray) : Bool := T.all (fun s => (G.out s).all (hasB T))
theorem closedB_ok {G : GG} {T : List ByteArray} (h : closedB G T = true) : ∀ s, s ∈ T → ∀ t, t ∈ G.out s → t ∈ T := fun s hs t ht => by
  unfold closedB at h
  rw [List.all_eq_true] at h
  have h2 := h s hs
  rw [List.all_eq_true] at h2
  exact hasB_iff.1 (h2 t ht)
theorem way_shut {G : GG} {T : List ByteArray} {a b : ByteArray} (h : closedB G T = true) (ha : hasB T a = true) (hb : hasB T b = false) : wayG G a b = ([], false) :=
  wayG_none (.inr (.inr (fun n hd => (hasB_false.1 hb) (Rc.closed (closedB_ok h) (hasB_iff.1 ha) ⟨n, hd.1⟩))))
theorem way_zero {G : GG} {a : ByteArray} (ha : hasB G.ns a = true) : wayG G a a = ([a], true) := by
  rw [wayG_some (hasB_iff.1 ha) (hasB_iff.1 ha) (dist_zero.2 rfl)]
  rfl
theorem way_one {G : GG} {a b : ByteArray} (ha : hasB G.ns a = true) (hb : hasB G.ns b = true) (h : G.out a = [b]) (hne : a ≠ b) : wayG G a b = ([a, b], true) := by
  have s1 : steps G.out (nearG G b) 1 a = b :: steps G.out (nearG G b) 0 b := by
    show (match (G.out a).find? (nearG G b 0) with | some x => x :: steps G.out (nearG G b) 0 x | none => []) = _
    rw [h, List.find?_cons_of_pos (nearG_iff.2 (dist_zero.2 rfl))]
  rw [wayG_some (hasB_iff.1 ha) (hasB_iff.1 hb) (dist_one (by rw [h]; exact List.mem_singleton.2 rfl) hne), s1, steps]
theorem below_start {G : GG} (hG : GOk G) {l : List ByteArray} {a : ByteArray} (h : a ∈ l) (ha : a ∈ G.ns) : a ∈ belowG G l := (mem_belowG hG).2 ⟨a, h, ha, Rc.refl a⟩
theorem below_step {G : GG} (hG : GOk G) {l : List ByteArray} {s t : ByteArray} (h : s ∈ belowG G l) (ht : t ∈ G.out s) : t ∈ belowG G l := by
  obtain ⟨a, h1, h2, h3⟩ := (mem_belowG hG).1 h
  exact (mem_belowG hG).2 ⟨a, h1, h2, h3.snoc ht⟩
theorem below_is {G : GG} (hG : GOk G) {l T : List ByteArray} (hT : SS T) (hc : closedB G T = true) (hl : l.all (fun a => !hasB G.ns a || hasB T a) = true) (hr : ∀ s, s ∈ T → s ∈ belowG G l) : belowG G l = T :=
  ss_uniq _ _ (ss_belowG hG _) hT (fun s => ⟨fun h => by
    obtain ⟨a, h1, h2, h3⟩ := (mem_belowG hG).1 h
    rw [List.all_eq_true] at hl
    have h4 := hl a h1
    rw [hasB_iff.2 h2] at h4
    exact Rc.closed (closedB_ok hc) (hasB_iff.1 (by simpa using h4)) h3, hr s⟩)
def kZ : ByteArray := ⟨#[122, 122]⟩
def G1 : GG := linkG G0 kD kB
def G2 : GG := linkG G1 kC kC
theorem G0_da : wayG G0 kD kA = ([], false) := way_shut (T := [kD]) (by decide +kernel) (by decide +kernel) (by decide +kernel)
theorem G0_aa : wayG G0 kA kA = ([kA], true) := way_zero (by decide +kernel)
theorem G0_cycle : cycleG G0 = none := by
  have h := order_cyc G0_ok
  rw [G0_order] at h
  cases hc : cycleG G0 with
  | none => rfl
  | some c => rw [hc] at h; cases h
theorem G0_out : G0.out kZ = [] := by decide +kernel
theorem G0_in : G0.inn kD = [kB, kC] := by decide +kernel
theorem mk (T : List ByteArray) (a : ByteArray) (h : hasB T a = true) : a ∈ T := hasB_iff.1 h
theorem ss_T : SS [kA, kB, kC, kD] ∧ SS [kB, kD] := by
  have h1 := G0_ok.rise
  rw [G0_ns] at h1
  exact ⟨h1, h1.sublist (by decide)⟩
theorem G0_below : belowG G0 [kB] = [kB, kD] := by
  have h1 : kB ∈ belowG G0 [kB] := below_start G0_ok (mk _ _ (by decide)) (mk _ _ (by decide +kernel))
  have h2 : kD ∈ belowG G0 [kB] := below_step G0_ok h1 (mk _ _ (by decide +kernel))
  refine below_is G0_ok ss_T.2 (by decide +kernel) (by decide +kernel) (fun s hs => ?_)
  rcases List.mem_cons.1 hs with rfl | hs
  · exact h1
  · rw [List.mem_singleton.1 hs]; exact h2
theorem G0_belowZ : belowG G0 [kZ] = [] := below_is G0_ok List.Pairwise.nil (by decide +kernel) (by decide +kernel) (fun s hs => by cases hs)
theorem G0_above : belowG (turnG G0) [kD] = [kA, kB, kC, kD] := by
  have ht := turnG_ok G0_ok
  have h1 : kD ∈ belowG (turnG G0) [kD] := below_start ht (mk _ _ (by decide)) (mk _ _ (by decide +kernel))
  have h2 : kB ∈ belowG (turnG G0) [kD] := below_step ht h1 (mk _ _ (by decide +kernel))
  have h3 : kC ∈ belowG (turnG G0) [kD] := below_step ht h1 (mk _ _ (by decide +kernel))
  have h4 : kA ∈ belowG (turnG G0) [kD] := below_step ht h2 (mk _ _ (by decide +kernel))
  refine below_is ht ss_T.1 (by decide +kernel) (by decide +kernel) (fun s hs => ?_)
  rcases List.mem_cons.1 hs with rfl | hs
  · exact h4
  rcases List.mem_cons.1 hs with rfl | hs
  · exact h2
  rcases List.mem_cons.1 hs with rfl | hs
  · exact h3
  · rw [List.mem_singleton.1 hs]; exact h1
theorem G1_ns : G1.ns = [kA, kB, kC, kD] := by decide +kernel
theorem G1_order : orderG G1 = ([], false) := by decide +kernel
theorem G1_pairs : pairsG G1 G1.ns = [(kA, kB), (kA, kC), (kB, kD), (kC, kD), (kD, kB)] := by decide +kernel
theorem G1_cycle : cycleG G1 = some [kB, kD] := by
  have w1 : wayG G1 kB kA = ([], false) := way_shut (T := [kB, kD]) (by decide +kernel) (by decide +kernel) (by decide +kernel)
  have w2 : wayG G1 kC kA = ([], false) := way_shut (T := [kB, kC, kD]) (by decide +kernel) (by decide +kernel) (by decide +kernel)
  have w3 : wayG G1 kD kB = ([kD, kB], true) := way_one (by decide +kernel) (by decide +kernel) (by decide +kernel) (by decide)
  have w4 : wayG G1 kD kC = ([], false) := way_shut (T := [kB, kD]) (by decide +kernel) (by decide +kernel) (by decide +kernel)
  have w5 : wayG G1 kB kD = ([kB, kD], true) := way_one (by decide +kernel) (by decide +kernel) (by decide +kernel) (by decide)
  have b1 : better none (kB :: [kD, kB].dropLast) = some [kB, kD] := by decide +kernel
  have b2 : better (some [kB, kD]) (kD :: [kB, kD].dropLast) = some [kB, kD] := by decide +kernel
  have hf : (false = true) = False := by simp
  unfold cycleG bestOf
  rw [G1_pairs]
  simp only [List.foldl, bestStep, w1, w2, w3, w4, w5, hf, if_true, if_false, b1, b2]
theorem G2_pairs : pairsG G2 G2.ns = [(kA, kB), (kA, kC), (kB, kD), (kC, kC), (kC, kD), (kD, kB)] := by decide +kernel
theorem G2_cycle : cycleG G2 = some [kC] := by
  have w1 : wayG G2 kB kA = ([], false) := way_shut (T := [kB, kD]) (by decide +kernel) (by decide +kernel) (by decide +kernel)
  have w2 : wayG G2 kC kA = ([], false) := way_shut (T := [kB, kC, kD]) (by decide +kernel) (by decide +kernel) (by decide +kernel)
  have w3 : wayG G2 kD kB = ([kD, kB], true) := way_one (by decide +kernel) (by decide +kernel) (by decide +kernel) (by decide)
  have w4 : wayG G2 kD kC = ([], false) := way_shut (T := [kB, kD]) (by decide +kernel) (by decide +kernel) (by decide +kernel)
  have w5 : wayG G2 kB kD = ([kB, kD], true) := way_one (by decide +kernel) (by decide +kernel) (by decide +kernel) (by decide)
  have w6 : wayG G2 kC kC = ([kC], true) := way_zero (by decide +kernel)
  have b1 : better none (kB :: [kD, kB].dropLast) = some [kB, kD] := by decide +kernel
  have b2 : better (some [kB, kD]) (kC :: [kC].dropLast) = some [kC] := by decide +kernel
  have b3 : better (some [kC]) (kD :: [kB, kD].dropLast) = some [kC] := by decide +kernel
  have hf : (false = true) = False := by simp
  unfold cycleG bestOf
  rw [G2_pairs]
  simp only [List.foldl, bestStep, w1, w2, w3, w4, w5, w6, hf, if_true, if_false, b1, b2, b3]
theorem G1_ok : GOk G1 := linkG_ok G0_ok (by decide) (by decide)
end Go.Proofs.Ytmhbdgnajlnhnaa.Pl
