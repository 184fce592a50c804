/- The printed functions on paths come to the plain ones: the one form, by the program and by the reference. -/
import Derived.Test.YtkldaghhfnpcjaaPlPathB
namespace Go.Proofs.Ytkldaghhfnpcjaa.Pl
open Go.RowKit Go.Proofs.YtkldaghhfnpcjaaW.PrintWords Go.Proofs.Ytkldaghhfnpcjaa.P
set_option linter.unusedSimpArgs false

theorem refis_l0 (l : List (List UInt8)) (hl : l.length ≤ 1000000000000) : ∀ d i : Nat, i + d = l.length → Ev (fun k => brickyardref09_Is.l0 k (l.map B) (i : Int)) ((l.drop i).all segB) := by
  intro d
  induction d with
  | zero =>
    intro i hi
    refine ev_succ ?_
    simp only [brickyardref09_Is.l0]
    refine ev_ite_neg (by simp; omega) (ev_const ?_)
    rw [List.drop_of_length_le (by omega)]
    rfl
  | succ d ih =>
    intro i hi
    have hlt : i < l.length := by omega
    refine ev_succ ?_
    simp only [brickyardref09_Is.l0]
    refine ev_ite_pos (by simp; omega) (ev_ite_pos (by omega) ?_)
    rw [rd_B l i hlt, wsucc (by omega), drop_cons hlt, List.all_cons]
    refine ev_bind (refseg_ev _) ?_
    rw [L_B]
    cases hq : segB l[i] with
    | true => exact ev_ite_pos rfl (ev_eq (ih (i + 1) (by omega)) (by simp))
    | false => exact ev_ite_neg (by simp) (ev_const (by simp))
theorem refis_ev (s : ByteArray) : Ev (fun k => brickyardref09_Is.f k s) (isL (L s)) := by
  simp only [brickyardref09_Is.f]
  have hsz := size_L s
  by_cases h : (s.size : Int) > 60
  · refine ev_ite_pos h (ev_const ?_)
    have : ¬ (L s).length ≤ 60 := by omega
    simp [isL, this]
  · refine ev_ite_neg h (ev_bind (refcut_ev s (by omega)) ?_)
    have hp := pieces_length (L s)
    refine ev_eq (refis_l0 (pieces (L s)) (by omega) (pieces (L s)).length 0 (by omega)) ?_
    have : (L s).length ≤ 60 := by omega
    simp [isL, this]
/-- what is told: the text and the error -/
def told (r : List UInt8 × Int) : ByteArray × Int := (B r.1, r.2)
theorem walk_cons (kept : List (List UInt8)) (p : List UInt8) (ps : List (List UInt8)) : walk kept (p :: ps) = if p = [] ∨ p = [46] then walk kept ps else if p = [46, 46] then (if kept = [] then none else walk kept.dropLast ps) else if segB p = true then walk (kept ++ [p]) ps else none := by
  rw [walk]
theorem dropLast_take {α : Type} (l : List α) : l.take (l.length - 1) = l.dropLast := (List.dropLast_eq_take).symm
theorem lens_app (a b : List (List UInt8)) : Lib.lens (a ++ b) = Lib.lens a + Lib.lens b := by simp only [Lib.lens, List.map_append, List.sum_append]
theorem lens_dropLast (l : List (List UInt8)) : Lib.lens l.dropLast ≤ Lib.lens l := by
  rw [← dropLast_take]; exact lens_take _ _
theorem join_le (l : List (List UInt8)) : (Lib.join l [47]).length ≤ Lib.lens l + l.length := by
  cases l with
  | nil => simp [Lib.join_nil]
  | cons a r => rw [Lib.join_length, show ([47] : List UInt8).length * r.length = r.length from Nat.one_mul _, List.length_cons]; omega
end Go.Proofs.Ytkldaghhfnpcjaa.Pl
