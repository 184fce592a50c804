/- Folded: PlPathA, PlPathB, PlPathC. -/
import Derived.Test.YtkldaghhfnpcjaaPlPath
import Derived.Test.YtkldaghhfnpcjaaPxf33
import Derived.Test.YtkldaghhfnpcjaaPxf64
import Derived.Test.YtkldaghhfnpcjaaPxf32
import Derived.Test.YtkldaghhfnpcjaaPxf63
import Derived.Test.YtkldaghhfnpcjaaPxf21
import Derived.Test.YtkldaghhfnpcjaaPxf48
/- The printed functions on segments and pieces come to the plain ones. -/
namespace Go.Proofs.Ytkldaghhfnpcjaa.Pl
open Go.RowKit Go.Proofs.YtkldaghhfnpcjaaW.PrintWords Go.Proofs.Ytkldaghhfnpcjaa.P
set_option linter.unusedSimpArgs false

theorem may_ev (u : UInt8) : Ev (fun k => path_may.f k (u.toNat : Int)) (mayB u) := by
  refine ⟨3, fun k hk => ?_⟩
  obtain ⟨k, rfl⟩ : ∃ m, k = m + 3 := ⟨k - 3, by omega⟩
  unfold mayB
  simp only [path_may.f, path_may.j0, path_may.j1]
  repeat' split
  all_goals simp_all
  all_goals omega
/-- A row of bytes, from the i-th on. -/
theorem segment_l0 (s : ByteArray) (hs : s.size ≤ 1000000) : ∀ d i : Nat, i + d = s.size → Ev (fun k => path_segment.l0 k s (s.size : Int) (i : Int)) (((L s).drop i).all mayB) := by
  intro d
  induction d with
  | zero =>
    intro i hi
    refine ev_succ ?_
    simp only [path_segment.l0]
    refine ev_ite_neg (by omega) (ev_const ?_)
    rw [List.drop_of_length_le (by rw [← size_L]; omega)]
    rfl
  | succ d ih =>
    intro i hi
    have hlt : i < (L s).length := by rw [← size_L]; omega
    refine ev_succ ?_
    simp only [path_segment.l0]
    refine ev_ite_pos (by omega) (ev_ite_pos (by omega) (ev_ite_pos (by omega) ?_))
    rw [drop_cons hlt, bt_L s i hlt, wsucc (by omega)]
    refine ev_bind (may_ev _) ?_
    rw [List.all_cons]
    cases hm : mayB (L s)[i] with
    | true => exact ev_ite_pos rfl (ev_eq (ih (i + 1) (by omega)) (by simp))
    | false => exact ev_ite_neg (by simp) (ev_const (by simp))
theorem segB_le {l : List UInt8} (h : ¬ l.length ≤ 32) : segB l = false := by unfold segB; simp [h]
theorem segment_ev (s : ByteArray) : Ev (fun k => path_segment.f k s) (segB (L s)) := by
  simp only [path_segment.f, toList_L]
  by_cases h0 : L s = []
  · refine ev_ite_pos h0 (ev_succ ?_)
    simp only [path_segment.j0]
    exact ev_ite_pos trivial (ev_const (by simp [segB, h0]))
  refine ev_ite_neg h0 ?_
  by_cases h1 : (s.size : Int) > 32
  · refine ev_ite_pos h1 (ev_succ ?_)
    simp only [path_segment.j0]
    exact ev_ite_pos trivial (ev_const (by rw [segB_le (by rw [← size_L]; omega)]))
  refine ev_ite_neg h1 ?_
  by_cases h2 : L s = [46]
  · refine ev_ite_pos h2 (ev_succ ?_)
    simp only [path_segment.j0]
    exact ev_ite_pos trivial (ev_const (by simp [segB, h2]))
  refine ev_ite_neg h2 (ev_succ ?_)
  simp only [path_segment.j0]
  by_cases h3 : L s = [46, 46]
  · exact ev_ite_pos (by simpa using h3) (ev_const (by simp [segB, h3]))
  refine ev_ite_neg (by simpa using h3) ?_
  refine ev_eq (segment_l0 s (by omega) s.size 0 (by omega)) ?_
  have h4 : (L s).length ≤ 32 := by rw [← size_L]; omega
  simp [segB, h0, h2, h3, h4]
theorem refseg_l0 (s : ByteArray) (hs : s.size ≤ 1000000) : ∀ d i : Nat, i + d = s.size → Ev (fun k => brickyardref09_Segment.l0 k s (i : Int)) (((L s).drop i).all mayB) := by
  intro d
  induction d with
  | zero =>
    intro i hi
    refine ev_succ ?_
    simp only [brickyardref09_Segment.l0]
    refine ev_ite_neg (by omega) (ev_const ?_)
    rw [List.drop_of_length_le (by rw [← size_L]; omega)]
    rfl
  | succ d ih =>
    intro i hi
    have hlt : i < (L s).length := by rw [← size_L]; omega
    refine ev_succ ?_
    simp only [brickyardref09_Segment.l0]
    refine ev_ite_pos (by omega) (ev_ite_pos (by omega) ?_)
    rw [drop_cons hlt, bt_L s i hlt, wsucc (by omega), List.all_cons]
    have hu := ih (i + 1) (by omega)
    cases hm : mayB (L s)[i] with
    | true =>
      unfold mayB at hm
      simp only [decide_eq_true_eq] at hm
      refine ev_eq (Ev.congr (fun k => ?_) hu) (by simp)
      repeat' split
      all_goals first | rfl | (exfalso; omega)
    | false =>
      unfold mayB at hm
      simp only [decide_eq_false_iff_not] at hm
      refine Ev.congr (f := fun _ => some false) (fun k => ?_) (ev_const (by simp))
      repeat' split
      all_goals first | rfl | (exfalso; omega)
theorem refseg_ev (s : ByteArray) : Ev (fun k => brickyardref09_Segment.f k s) (segB (L s)) := by
  simp only [brickyardref09_Segment.f, toList_L]
  have hsz := size_L s
  by_cases h0 : (s.size : Int) < 1
  · refine ev_ite_pos h0 (ev_succ ?_)
    simp only [brickyardref09_Segment.j0]
    have : L s = [] := List.eq_nil_of_length_eq_zero (by omega)
    exact ev_ite_pos trivial (ev_const (by simp [segB, this]))
  refine ev_ite_neg h0 ?_
  have h0' : L s ≠ [] := fun e => by rw [e, List.length_nil] at hsz; omega
  by_cases h1 : (s.size : Int) > 32
  · refine ev_ite_pos h1 (ev_succ ?_)
    simp only [brickyardref09_Segment.j0]
    exact ev_ite_pos trivial (ev_const (by rw [segB_le (by omega)]))
  refine ev_ite_neg h1 ?_
  by_cases h2 : L s = [46]
  · refine ev_ite_pos h2 (ev_succ ?_)
    simp only [brickyardref09_Segment.j0]
    exact ev_ite_pos trivial (ev_const (by simp [segB, h2]))
  refine ev_ite_neg h2 (ev_succ ?_)
  simp only [brickyardref09_Segment.j0]
  by_cases h3 : L s = [46, 46]
  · exact ev_ite_pos (by simpa using h3) (ev_const (by simp [segB, h3]))
  refine ev_ite_neg (by simpa using h3) ?_
  refine ev_eq (refseg_l0 s (by omega) s.size 0 (by omega)) ?_
  have h4 : (L s).length ≤ 32 := by omega
  simp [segB, h0', h2, h3, h4]
/-- strings.Cut at a slash. -/
theorem cut_none (s : ByteArray) (c : UInt8) (h : c ∉ L s) : strings_Cut.f s ⟨#[c]⟩ = some (s, ⟨#[]⟩, false) := by
  rcases ib_cases (L s) c with ⟨h1, _⟩ | ⟨i, _, hl, he, _⟩
  · unfold strings_Cut.f stringslite_Cut.f stringslite_Index.f
    have e : Lib.indexByte s.data.toList c = -1 := h1
    simp [show (⟨#[c]⟩ : ByteArray).size = 1 from rfl, e]
  · exact absurd (he ▸ List.mem_append_right _ List.mem_cons_self) h
theorem cut_some (s : ByteArray) (c : UInt8) (hs : s.size ≤ 4611686018427387904) (a b : List UInt8) (ha : c ∉ a) (he : L s = a ++ c :: b) : strings_Cut.f s ⟨#[c]⟩ = some (B a, B b, true) := by
  rcases ib_cases (L s) c with ⟨_, h1⟩ | ⟨i, h1, hl, he', hn⟩
  · exact absurd (he ▸ List.mem_append_right _ List.mem_cons_self) h1
  · have hi : i = a.length := by
      rcases Nat.lt_trichotomy i a.length with hlt | heq | hgt
      · exfalso
        have h2 : (L s)[i]? = some c := by rw [he']; rw [List.getElem?_append_right (by simp [List.length_take]; omega)]; simp [List.length_take]; rw [Nat.min_eq_left (by omega)]; simp
        rw [he, List.getElem?_append_left hlt] at h2
        exact ha (List.mem_of_getElem? h2)
      · exact heq
      · exfalso
        apply hn
        rw [he, List.take_append, List.take_of_length_le (by omega)]
        obtain ⟨m, hm⟩ : ∃ m, i - a.length = m + 1 := ⟨i - a.length - 1, by omega⟩
        rw [hm, List.take_succ_cons]
        exact List.mem_append_right _ List.mem_cons_self
    have hsz := size_L s
    have h3 : strings_Cut.f s ⟨#[c]⟩ = some (s.extract 0 i, s.extract (i + 1) s.size, true) := by
      have h1' : Lib.indexByte s.data.toList c = (i : Int) := h1
      unfold strings_Cut.f stringslite_Cut.f stringslite_Index.f
      rw [if_pos (show (⟨#[c]⟩ : ByteArray).size = 1 from rfl)]
      simp only [show (⟨#[c]⟩ : ByteArray).size = 1 from rfl, show (⟨#[c]⟩ : ByteArray).data.toList.headD 0 = c from rfl, h1', Option.bind_some]
      rw [if_pos (by omega), if_pos (by omega), if_pos (by omega), w64 (by omega) (by omega), if_pos (by omega), if_pos (by omega)]
      simp only [Option.bind_some]
      have e1 : ((i : Int)).toNat = i := by omega
      have e2 : ((i : Int) + ((1 : Nat) : Int)).toNat = i + 1 := by omega
      rw [e1, e2]
    rw [h3]
    congr 2
    · apply L_inj
      rw [L_extract, L_B, he, hi]
      simp
    · congr 1
      apply L_inj
      rw [L_extract, L_B, hsz, he, hi]
      simp only [List.length_append, List.length_cons]
      rw [show a.length + 1 = (a ++ [c]).length from by simp, show a ++ c :: b = (a ++ [c]) ++ b from by simp, List.drop_left]
      exact List.take_of_length_le (by simp; omega)
end Go.Proofs.Ytkldaghhfnpcjaa.Pl
/- The printed functions on paths come to the plain ones: is a text a path; its one form. -/
namespace Go.Proofs.Ytkldaghhfnpcjaa.Pl
open Go.RowKit Go.Proofs.YtkldaghhfnpcjaaW.PrintWords Go.Proofs.Ytkldaghhfnpcjaa.P
set_option linter.unusedSimpArgs false

theorem first_split {l : List UInt8} {c : UInt8} (h : c ∈ l) : ∃ a b, l = a ++ c :: b ∧ c ∉ a := by
  rcases ib_cases l c with ⟨_, h1⟩ | ⟨i, _, _, he, hn⟩
  · exact absurd h h1
  · exact ⟨_, _, he, hn⟩
theorem is_l0 : ∀ d (s : ByteArray), s.size ≤ d → s.size ≤ 4611686018427387904 → Ev (fun k => path_Is.l0 k s) ((pieces (L s)).all segB) := by
  intro d
  induction d with
  | zero =>
    intro s h0 hs
    have hl : L s = [] := List.eq_nil_of_length_eq_zero (by rw [← size_L]; omega)
    refine ev_succ ?_
    simp only [path_Is.l0]
    rw [cut_none s 47 (by rw [hl]; simp)]
    simp only [Option.bind_some]
    refine ev_bind (segment_ev s) ?_
    rw [hl, show pieces [] = [[]] from rfl]
    refine ev_ite_neg (by simp [segB]) (ev_const (by simp [segB]))
  | succ d ih =>
    intro s h0 hs
    refine ev_succ ?_
    simp only [path_Is.l0]
    by_cases h : (47 : UInt8) ∈ L s
    · obtain ⟨a, b, he, hn⟩ := first_split h
      have hsz : s.size = a.length + 1 + b.length := by rw [size_L, he]; simp; omega
      rw [cut_some s 47 hs a b hn he]
      simp only [Option.bind_some]
      refine ev_bind (segment_ev (B a)) ?_
      rw [he, pieces_cut hn, L_B, List.all_cons]
      cases hq : segB a with
      | true =>
        refine ev_ite_pos rfl (ev_ite_pos trivial ?_)
        have := ih (B b) (by rw [size_B]; omega) (by rw [size_B]; omega)
        rw [L_B] at this
        exact ev_eq this (by simp)
      | false => exact ev_ite_neg (by simp) (ev_const (by simp))
    · rw [cut_none s 47 h]
      simp only [Option.bind_some]
      refine ev_bind (segment_ev s) ?_
      rw [pieces_one h]
      cases hq : segB (L s) with
      | true => exact ev_ite_pos rfl (ev_ite_neg (by simp) (ev_const (by simp [hq])))
      | false => exact ev_ite_neg (by simp) (ev_const (by simp [hq]))
theorem is_ev (s : ByteArray) : Ev (fun k => path_Is.f k s) (isL (L s)) := by
  simp only [path_Is.f]
  have hsz := size_L s
  by_cases h : (s.size : Int) > 60
  · refine ev_ite_pos h (ev_const ?_)
    have : ¬ (L s).length ≤ 60 := by omega
    simp [isL, this]
  · refine ev_ite_neg h (ev_eq (is_l0 s.size s (Nat.le_refl _) (by omega)) ?_)
    have : (L s).length ≤ 60 := by omega
    simp [isL, this]
/-! #### the reference's pieces -/
theorem refcut_l0 (s : ByteArray) (hs : s.size ≤ 1000000000000) : ∀ d (out : List ByteArray) (p i : Nat), i + d = s.size → p ≤ i → out.length ≤ i →
    Ev (fun k => brickyardref09_Cut.l0 k s out (p : Int) (i : Int)) (out ++ (glue (((L s).drop p).take (i - p)) (pieces ((L s).drop i))).map B) := by
  intro d
  have hsz := size_L s
  induction d with
  | zero =>
    intro out p i hi hp ho
    refine ev_succ ?_
    simp only [brickyardref09_Cut.l0]
    refine ev_ite_pos (by omega) (ev_ite_pos (by omega) (ev_ite_pos (by omega) (ev_ite_pos (by omega) (ev_ite_pos (by omega) ?_))))
    rw [wsucc (by omega)]
    refine ev_succ ?_
    simp only [brickyardref09_Cut.l0]
    refine ev_ite_neg (by omega) (ev_const ?_)
    rw [List.drop_of_length_le (i := i) (by omega)]
    congr 2
    simp only [pieces, glue, List.headD_cons, List.append_nil, List.tail_cons, List.map_cons, List.map_nil]
    congr 1
    apply L_inj
    rw [L_extract, L_B]
    simp
  | succ d ih =>
    intro out p i hi hp ho
    have hlt : i < (L s).length := by omega
    refine ev_succ ?_
    simp only [brickyardref09_Cut.l0]
    refine ev_ite_pos (by omega) (ev_ite_neg (by omega) (ev_ite_pos (by omega) (ev_ite_pos (by omega) ?_)))
    rw [bt_L s i hlt, wsucc (by omega), drop_cons hlt]
    by_cases h : (L s)[i] = 47
    · refine ev_ite_pos (by rw [h]; rfl) (ev_ite_pos (by omega) (ev_ite_pos (by omega) (ev_ite_pos (by omega) ?_)))
      have := ih (out ++ [s.extract ((p : Int)).toNat ((i : Int)).toNat]) (i + 1) (i + 1) (by omega) (Nat.le_refl _) (by simp; omega)
      refine ev_eq this ?_
      rw [h, glue_slash, Nat.sub_self, List.take_zero, glue_nil]
      rw [List.append_assoc]
      congr 1
      rw [List.map_cons, List.singleton_append]
      congr 1
      apply L_inj
      rw [L_extract, L_B]
      simp
    · refine ev_ite_neg (fun e => h ?_) ?_
      · have : (L s)[i].toNat = 47 := by omega
        exact UInt8.toNat.inj this
      · have := ih out p (i + 1) (by omega) (by omega) (by omega)
        refine ev_eq this ?_
        congr 2
        rw [glue_other h]
        congr 1
        rw [show i + 1 - p = (i - p) + 1 by omega, List.take_add_one, List.getElem?_drop, show p + (i - p) = i by omega, List.getElem?_eq_getElem hlt]
        rfl
theorem refcut_ev (s : ByteArray) (hs : s.size ≤ 1000000000000) : Ev (fun k => brickyardref09_Cut.f k s) ((pieces (L s)).map B) := by
  simp only [brickyardref09_Cut.f]
  refine ev_eq (refcut_l0 s hs s.size [] 0 0 (by omega) (Nat.le_refl _) (by simp)) ?_
  simp [glue_nil]
/-! #### the reference's join -/
theorem rd_B (l : List (List UInt8)) (i : Nat) (h : i < l.length) : rdOf ByteArray.empty (l.map B) (i : Int) = B (l[i]'h) := by
  unfold rdOf
  rw [List.getD_eq_getElem?_getD]
  simp [h]
theorem nums_app (a b : List UInt8) : (a ++ b).map (fun b => (b.toNat : Int)) = a.map (fun b => (b.toNat : Int)) ++ b.map (fun b => (b.toNat : Int)) := List.map_append
theorem bytesOf_B (l : List UInt8) : bytesOf (B l) = l.map (fun b => (b.toNat : Int)) := by simp [bytesOf, B]
theorem nums_B (l : List UInt8) : strOfNums (l.map (fun b => (b.toNat : Int))) = B l := by
  apply L_inj
  rw [L_B]
  unfold L
  rw [strOfNums_data, List.map_map]
  conv => rhs; rw [← List.map_id l]
  exact List.map_congr_left (fun x _ => by simp)
theorem lens_take (l : List (List UInt8)) (j : Nat) : Lib.lens (l.take j) ≤ Lib.lens l := by
  have e : Lib.lens (l.take j ++ l.drop j) = Lib.lens (l.take j) + Lib.lens (l.drop j) := by simp only [Lib.lens, List.map_append, List.sum_append]
  rw [List.take_append_drop] at e
  omega
theorem lens_cons (x : List UInt8) (r : List (List UInt8)) : Lib.lens (x :: r) = x.length + Lib.lens r := by simp [Lib.lens]
end Go.Proofs.Ytkldaghhfnpcjaa.Pl
/- The printed functions on paths come to the plain ones: the one form, by the program and by the reference. -/
namespace Go.Proofs.Ytkldaghhfnpcjaa.Pl
open Go.RowKit Go.Proofs.YtkldaghhfnpcjaaW.PrintWords Go.Proofs.Ytkldaghhfnpcjaa.P
set_option linter.unusedSimpArgs false

theorem refis_l0 (l : List (List UInt8)) (hl : l.length ≤ 1000000000000) : ∀ d i : Nat, i + d = l.length → Ev (fun k => brickyardref09_Is.l0 k (l.map B) (i : Int)) ((l.drop i).all segB) := by
  intro d
  induction d with
  | zero =>
    intro i hi
    refine ev_succ ?_
    simp only [brickyardref09_Is.l0]
    refine ev_ite_neg (by simp; omega) (ev_const ?_)
    rw [List.drop_of_length_le (by omega)]
    rfl
  | succ d ih =>
    intro i hi
    have hlt : i < l.length := by omega
    refine ev_succ ?_
    simp only [brickyardref09_Is.l0]
    refine ev_ite_pos (by simp; omega) (ev_ite_pos (by omega) ?_)
    rw [rd_B l i hlt, wsucc (by omega), drop_cons hlt, List.all_cons]
    refine ev_bind (refseg_ev _) ?_
    rw [L_B]
    cases hq : segB l[i] with
    | true => exact ev_ite_pos rfl (ev_eq (ih (i + 1) (by omega)) (by simp))
    | false => exact ev_ite_neg (by simp) (ev_const (by simp))
theorem refis_ev (s : ByteArray) : Ev (fun k => brickyardref09_Is.f k s) (isL (L s)) := by
  simp only [brickyardref09_Is.f]
  have hsz := size_L s
  by_cases h : (s.size : Int) > 60
  · refine ev_ite_pos h (ev_const ?_)
    have : ¬ (L s).length ≤ 60 := by omega
    simp [isL, this]
  · refine ev_ite_neg h (ev_bind (refcut_ev s (by omega)) ?_)
    have hp := pieces_length (L s)
    refine ev_eq (refis_l0 (pieces (L s)) (by omega) (pieces (L s)).length 0 (by omega)) ?_
    have : (L s).length ≤ 60 := by omega
    simp [isL, this]
/-- what is told: the text and the error -/
def told (r : List UInt8 × Int) : ByteArray × Int := (B r.1, r.2)
theorem walk_cons (kept : List (List UInt8)) (p : List UInt8) (ps : List (List UInt8)) : walk kept (p :: ps) = if p = [] ∨ p = [46] then walk kept ps else if p = [46, 46] then (if kept = [] then none else walk kept.dropLast ps) else if segB p = true then walk (kept ++ [p]) ps else none := by
  rw [walk]
theorem dropLast_take {α : Type} (l : List α) : l.take (l.length - 1) = l.dropLast := (List.dropLast_eq_take).symm
theorem lens_app (a b : List (List UInt8)) : Lib.lens (a ++ b) = Lib.lens a + Lib.lens b := by simp only [Lib.lens, List.map_append, List.sum_append]
theorem lens_dropLast (l : List (List UInt8)) : Lib.lens l.dropLast ≤ Lib.lens l := by
  rw [← dropLast_take]; exact lens_take _ _
theorem join_le (l : List (List UInt8)) : (Lib.join l [47]).length ≤ Lib.lens l + l.length := by
  cases l with
  | nil => simp [Lib.join_nil]
  | cons a r => rw [Lib.join_length, show ([47] : List UInt8).length * r.length = r.length from Nat.one_mul _, List.length_cons]; omega
end Go.Proofs.Ytkldaghhfnpcjaa.Pl
