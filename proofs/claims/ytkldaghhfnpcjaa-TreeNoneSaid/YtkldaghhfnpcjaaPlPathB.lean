/- The printed functions on paths come to the plain ones: is a text a path; its one form. -/
import Derived.Test.YtkldaghhfnpcjaaPlPathA
import Derived.Test.YtkldaghhfnpcjaaPxf21
import Derived.Test.YtkldaghhfnpcjaaPxf48
namespace Go.Proofs.Ytkldaghhfnpcjaa.Pl
open Go.RowKit Go.Proofs.YtkldaghhfnpcjaaW.PrintWords Go.Proofs.Ytkldaghhfnpcjaa.P
set_option linter.unusedSimpArgs false

theorem first_split {l : List UInt8} {c : UInt8} (h : c ∈ l) : ∃ a b, l = a ++ c :: b ∧ c ∉ a := by
  rcases ib_cases l c with ⟨_, h1⟩ | ⟨i, _, _, he, hn⟩
  · exact absurd h h1
  · exact ⟨_, _, he, hn⟩
theorem is_l0 : ∀ d (s : ByteArray), s.size ≤ d → s.size ≤ 4611686018427387904 → Ev (fun k => path_Is.l0 k s) ((pieces (L s)).all segB) := by
  intro d
  induction d with
  | zero =>
    intro s h0 hs
    have hl : L s = [] := List.eq_nil_of_length_eq_zero (by rw [← size_L]; omega)
    refine ev_succ ?_
    simp only [path_Is.l0]
    rw [cut_none s 47 (by rw [hl]; simp)]
    simp only [Option.bind_some]
    refine ev_bind (segment_ev s) ?_
    rw [hl, show pieces [] = [[]] from rfl]
    refine ev_ite_neg (by simp [segB]) (ev_const (by simp [segB]))
  | succ d ih =>
    intro s h0 hs
    refine ev_succ ?_
    simp only [path_Is.l0]
    by_cases h : (47 : UInt8) ∈ L s
    · obtain ⟨a, b, he, hn⟩ := first_split h
      have hsz : s.size = a.length + 1 + b.length := by rw [size_L, he]; simp; omega
      rw [cut_some s 47 hs a b hn he]
      simp only [Option.bind_some]
      refine ev_bind (segment_ev (B a)) ?_
      rw [he, pieces_cut hn, L_B, List.all_cons]
      cases hq : segB a with
      | true =>
        refine ev_ite_pos rfl (ev_ite_pos trivial ?_)
        have := ih (B b) (by rw [size_B]; omega) (by rw [size_B]; omega)
        rw [L_B] at this
        exact ev_eq this (by simp)
      | false => exact ev_ite_neg (by simp) (ev_const (by simp))
    · rw [cut_none s 47 h]
      simp only [Option.bind_some]
      refine ev_bind (segment_ev s) ?_
      rw [pieces_one h]
      cases hq : segB (L s) with
      | true => exact ev_ite_pos rfl (ev_ite_neg (by simp) (ev_const (by simp [hq])))
      | false => exact ev_ite_neg (by simp) (ev_const (by simp [hq]))
theorem is_ev (s : ByteArray) : Ev (fun k => path_Is.f k s) (isL (L s)) := by
  simp only [path_Is.f]
  have hsz := size_L s
  by_cases h : (s.size : Int) > 60
  · refine ev_ite_pos h (ev_const ?_)
    have : ¬ (L s).length ≤ 60 := by omega
    simp [isL, this]
  · refine ev_ite_neg h (ev_eq (is_l0 s.size s (Nat.le_refl _) (by omega)) ?_)
    have : (L s).length ≤ 60 := by omega
    simp [isL, this]
/-! #### the reference's pieces -/
theorem refcut_l0 (s : ByteArray) (hs : s.size ≤ 1000000000000) : ∀ d (out : List ByteArray) (p i : Nat), i + d = s.size → p ≤ i → out.length ≤ i →
    Ev (fun k => brickyardref09_Cut.l0 k s out (p : Int) (i : Int)) (out ++ (glue (((L s).drop p).take (i - p)) (pieces ((L s).drop i))).map B) := by
  intro d
  have hsz := size_L s
  induction d with
  | zero =>
    intro out p i hi hp ho
    refine ev_succ ?_
    simp only [brickyardref09_Cut.l0]
    refine ev_ite_pos (by omega) (ev_ite_pos (by omega) (ev_ite_pos (by omega) (ev_ite_pos (by omega) (ev_ite_pos (by omega) ?_))))
    rw [wsucc (by omega)]
    refine ev_succ ?_
    simp only [brickyardref09_Cut.l0]
    refine ev_ite_neg (by omega) (ev_const ?_)
    rw [List.drop_of_length_le (i := i) (by omega)]
    congr 2
    simp only [pieces, glue, List.headD_cons, List.append_nil, List.tail_cons, List.map_cons, List.map_nil]
    congr 1
    apply L_inj
    rw [L_extract, L_B]
    simp
  | succ d ih =>
    intro out p i hi hp ho
    have hlt : i < (L s).length := by omega
    refine ev_succ ?_
    simp only [brickyardref09_Cut.l0]
    refine ev_ite_pos (by omega) (ev_ite_neg (by omega) (ev_ite_pos (by omega) (ev_ite_pos (by omega) ?_)))
    rw [bt_L s i hlt, wsucc (by omega), drop_cons hlt]
    by_cases h : (L s)[i] = 47
    · refine ev_ite_pos (by rw [h]; rfl) (ev_ite_pos (by omega) (ev_ite_pos (by omega) (ev_ite_pos (by omega) ?_)))
      have := ih (out ++ [s.extract ((p : Int)).toNat ((i : Int)).toNat]) (i + 1) (i + 1) (by omega) (Nat.le_refl _) (by simp; omega)
      refine ev_eq this ?_
      rw [h, glue_slash, Nat.sub_self, List.take_zero, glue_nil]
      rw [List.append_assoc]
      congr 1
      rw [List.map_cons, List.singleton_append]
      congr 1
      apply L_inj
      rw [L_extract, L_B]
      simp
    · refine ev_ite_neg (fun e => h ?_) ?_
      · have : (L s)[i].toNat = 47 := by omega
        exact UInt8.toNat.inj this
      · have := ih out p (i + 1) (by omega) (by omega) (by omega)
        refine ev_eq this ?_
        congr 2
        rw [glue_other h]
        congr 1
        rw [show i + 1 - p = (i - p) + 1 by omega, List.take_add_one, List.getElem?_drop, show p + (i - p) = i by omega, List.getElem?_eq_getElem hlt]
        rfl
theorem refcut_ev (s : ByteArray) (hs : s.size ≤ 1000000000000) : Ev (fun k => brickyardref09_Cut.f k s) ((pieces (L s)).map B) := by
  simp only [brickyardref09_Cut.f]
  refine ev_eq (refcut_l0 s hs s.size [] 0 0 (by omega) (Nat.le_refl _) (by simp)) ?_
  simp [glue_nil]
/-! #### the reference's join -/
theorem rd_B (l : List (List UInt8)) (i : Nat) (h : i < l.length) : rdOf ByteArray.empty (l.map B) (i : Int) = B (l[i]'h) := by
  unfold rdOf
  rw [List.getD_eq_getElem?_getD]
  simp [h]
theorem nums_app (a b : List UInt8) : (a ++ b).map (fun b => (b.toNat : Int)) = a.map (fun b => (b.toNat : Int)) ++ b.map (fun b => (b.toNat : Int)) := List.map_append
theorem bytesOf_B (l : List UInt8) : bytesOf (B l) = l.map (fun b => (b.toNat : Int)) := by simp [bytesOf, B]
theorem nums_B (l : List UInt8) : strOfNums (l.map (fun b => (b.toNat : Int))) = B l := by
  apply L_inj
  rw [L_B]
  unfold L
  rw [strOfNums_data, List.map_map]
  conv => rhs; rw [← List.map_id l]
  exact List.map_congr_left (fun x _ => by simp)
theorem lens_take (l : List (List UInt8)) (j : Nat) : Lib.lens (l.take j) ≤ Lib.lens l := by
  have e : Lib.lens (l.take j ++ l.drop j) = Lib.lens (l.take j) + Lib.lens (l.drop j) := by simp only [Lib.lens, List.map_append, List.sum_append]
  rw [List.take_append_drop] at e
  omega
theorem lens_cons (x : List UInt8) (r : List (List UInt8)) : Lib.lens (x :: r) = x.length + Lib.lens r := by simp [Lib.lens]
end Go.Proofs.Ytkldaghhfnpcjaa.Pl
