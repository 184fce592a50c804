/- The reference's less, plainly. -/
import Derived.Test.YtmhbdgnajlnhnaaPlPure
import Derived.Test.YtmhbdgnajlnhnaaPxf53
namespace Go.Proofs.Ytmhbdgnajlnhnaa.Pl
open Go.RowKit Go.Proofs.YtmhbdgnajlnhnaaW.PrintWords Go.Proofs.Ytmhbdgnajlnhnaa.P
set_option linter.unusedVariables false
set_option linter.unusedSimpArgs false
theorem rless_l0 (a b : List ByteArray) (ha : a.length ≤ 1000000) (hb : b.length ≤ 1000000) : ∀ d i : Nat, i + d = a.length → i ≤ b.length → Ev (fun k => brickyardref19_less.l0 k a b (i : Int)) (if a.take i = b.take i then decide (cmpL (a.drop i) (b.drop i) < 0) else decide (cmpL (a.drop i) (b.drop i) < 0)) := by
  intro d
  induction d with
  | zero =>
    intro i hi hib
    rw [ite_self, List.drop_of_length_le (by omega)]
    refine ev_succ ?_
    simp only [brickyardref19_less.l0]
    refine ev_ite_neg (by omega) (ev_succ ?_)
    simp only [brickyardref19_less.j1]
    refine ev_ite_neg (by decide) (ev_const ?_)
    by_cases h : i < b.length
    · rw [List.drop_eq_getElem_cons h, cmpL, decide_eq_true (show (a.length : Int) < (b.length : Int) by omega)]
      rfl
    · rw [List.drop_of_length_le (by omega), cmpL, decide_eq_false (show ¬ (a.length : Int) < (b.length : Int) by omega)]
      rfl
  | succ d ih =>
    intro i hi hib
    have hlt : i < a.length := by omega
    rw [ite_self, List.drop_eq_getElem_cons hlt]
    refine ev_succ ?_
    simp only [brickyardref19_less.l0]
    refine ev_ite_pos (by omega) (ev_succ ?_)
    simp only [brickyardref19_less.j1, get_rd hlt]
    by_cases h : i < b.length
    · rw [decide_eq_true (show (i : Int) < (b.length : Int) by omega)]
      simp only [get_rd h, toList_eq, w64n (n := i) (by omega)]
      rw [List.drop_eq_getElem_cons h, cmpL]
      refine ev_ite_pos (by decide) (ev_ite_pos (by omega) (ev_ite_pos (by omega) (ev_ite_pos (by omega) ?_)))
      by_cases he : a[i] = b[i]
      · rw [if_pos (cmpI_zero.2 he)]
        have := ih (i + 1) (by omega) (by omega)
        rw [ite_self] at this
        exact ev_ite_pos he this
      · rw [if_neg (fun h => he (cmpI_zero.1 h))]
        refine ev_ite_neg he (ev_const ?_)
        rw [less_eq]
        congr 1
        rw [Bool.eq_iff_iff, decide_eq_true_eq, decide_eq_true_eq, cmpI_neg]
    · rw [decide_eq_false (show ¬ (i : Int) < (b.length : Int) by omega), List.drop_of_length_le (l := b) (by omega), cmpL]
      refine ev_ite_neg (by decide) (ev_const ?_)
      rw [decide_eq_false (show ¬ (a.length : Int) < (b.length : Int) by omega)]
      rfl
theorem rless_ev (a b : List ByteArray) (ha : a.length ≤ 1000000) (hb : b.length ≤ 1000000) : Ev (fun k => brickyardref19_less.f k a b) (decide (cmpL a b < 0)) := by
  have := rless_l0 a b ha hb a.length 0 (Nat.zero_add _) (Nat.zero_le _)
  rwa [ite_self, List.drop_zero, List.drop_zero] at this
end Go.Proofs.Ytmhbdgnajlnhnaa.Pl
