/- What a shortest way is, plainly. -/
import Derived.Test.YtmhbdgnajlnhnaaPlBel
import Derived.Test.YtmhbdgnajlnhnaaGHave
namespace Go.Proofs.Ytmhbdgnajlnhnaa.Pl
open Go.RowKit Go.Proofs.YtmhbdgnajlnhnaaW.PrintWords Go.Proofs.Ytmhbdgnajlnhnaa.P
set_option linter.unusedVariables false
set_option linter.unusedSimpArgs false
theorem hasB_no {l : List ByteArray} {s : ByteArray} (h : s ∉ l) : hasB l s = false := by
  cases e : hasB l s with
  | false => rfl
  | true => exact absurd (hasB_iff.1 e) h
theorem way_there {G : GG} (hG : GOk G) (a b : ByteArray) : hasB (belowG G [a]) b = (wayG G a b).2 := by
  rw [Bool.eq_iff_iff, hasB_iff, mem_belowG hG]
  constructor
  · rintro ⟨x, hx, hxn, n, hs⟩
    rw [List.mem_singleton] at hx
    subst hx
    obtain ⟨m, _, hd⟩ := dist_of_stp hs
    rw [wayG_some hxn (stp_in hG hs hxn) hd]
  · intro h
    obtain ⟨n, ha, hb, hd, _⟩ := wayG_ok h
    exact ⟨a, List.mem_singleton.2 rfl, ha, n, hd.1⟩
theorem way_not {G : GG} {a b : ByteArray} (h : (wayG G a b).2 = false) : (wayG G a b).1 = [] := by
  by_cases hab : a ∈ G.ns ∧ b ∈ G.ns ∧ ∃ n, Dist G.out n a b
  · obtain ⟨ha, hb, n, hd⟩ := hab
    rw [wayG_some ha hb hd] at h
    cases h
  · rw [wayG_none (by
      by_cases ha : a ∈ G.ns
      · by_cases hb : b ∈ G.ns
        · exact .inr (.inr (fun n hd => hab ⟨ha, hb, n, hd⟩))
        · exact .inr (.inl hb)
      · exact .inl ha)]
/-- a way's parts -/
theorem way_parts {G : GG} {a b : ByteArray} (h : (wayG G a b).2 = true) : ∃ n, (wayG G a b).1.length = n + 1 ∧ Along G b n (wayG G a b).1 ∧ rdOf ByteArray.empty (wayG G a b).1 0 = a ∧ rdOf ByteArray.empty (wayG G a b).1 (n : Int) = b := by
  obtain ⟨n, ha, hb, hd, hw⟩ := wayG_ok h
  have hA := along_steps n a hd
  rw [← hw] at hA
  have hl := hA.last
  have h0 := hA.len
  refine ⟨n, hA.len, hA, ?_, ?_⟩
  · have q := get_rd (l := (wayG G a b).1) (i := 0) (by omega)
    rw [show ((0 : Nat) : Int) = 0 from rfl] at q
    rw [q]
    simp only [hw, List.getElem_cons_zero]
  · rw [get_rd (by omega)]
    exact hl
theorem way_in {G : GG} (hG : GOk G) {a b : ByteArray} {j : Nat} (hj : j < (wayG G a b).1.length) : (wayG G a b).1[j] ∈ G.ns := by
  cases hk : (wayG G a b).2 with
  | false => have := way_not hk; rw [this] at hj; exact absurd hj (Nat.not_lt_zero _)
  | true =>
    obtain ⟨n, ha, hb, hd, hw⟩ := wayG_ok hk
    obtain ⟨n', _, hA, _⟩ := way_parts hk
    cases j with
    | zero => simp only [hw, List.getElem_cons_zero]; exact ha
    | succ j => exact hG.inside _ _ (hA.edge j hj)
theorem along_next {G : GG} {b : ByteArray} {n : Nat} {w : List ByteArray} (h : Along G b n w) {i : Nat} (hi : i + 1 < w.length) : hasB (G.out (w[i]'(by omega))) (w[i + 1]'hi) = true := hasB_iff.2 (h.edge i hi)
theorem along_new {G : GG} {b : ByteArray} {n : Nat} {w : List ByteArray} (h : Along G b n w) {i : Nat} (hi : i < w.length) : hasB (w.take i) w[i] = false := hasB_no (h.new hi)
theorem along_short {G : GG} {b : ByteArray} {n : Nat} {w : List ByteArray} (h : Along G b n w) {i j : Nat} (hi : i < w.length) (hj : j < w.length) (hij : i + 2 ≤ j) : hasB (G.out w[i]) w[j] = false := hasB_no (h.short hi hj hij)
end Go.Proofs.Ytmhbdgnajlnhnaa.Pl
