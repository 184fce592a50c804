/- The printed functions on segments and pieces come to the plain ones. -/
import Derived.Test.YtkldaghhfnpcjaaPlPath
import Derived.Test.YtkldaghhfnpcjaaPxf33
import Derived.Test.YtkldaghhfnpcjaaPxf64
import Derived.Test.YtkldaghhfnpcjaaPxf32
import Derived.Test.YtkldaghhfnpcjaaPxf63
namespace Go.Proofs.Ytkldaghhfnpcjaa.Pl
open Go.RowKit Go.Proofs.YtkldaghhfnpcjaaW.PrintWords Go.Proofs.Ytkldaghhfnpcjaa.P
set_option linter.unusedSimpArgs false

theorem may_ev (u : UInt8) : Ev (fun k => path_may.f k (u.toNat : Int)) (mayB u) := by
  refine ⟨3, fun k hk => ?_⟩
  obtain ⟨k, rfl⟩ : ∃ m, k = m + 3 := ⟨k - 3, by omega⟩
  unfold mayB
  simp only [path_may.f, path_may.j0, path_may.j1]
  repeat' split
  all_goals simp_all
  all_goals omega
/-- A row of bytes, from the i-th on. -/
theorem segment_l0 (s : ByteArray) (hs : s.size ≤ 1000000) : ∀ d i : Nat, i + d = s.size → Ev (fun k => path_segment.l0 k s (s.size : Int) (i : Int)) (((L s).drop i).all mayB) := by
  intro d
  induction d with
  | zero =>
    intro i hi
    refine ev_succ ?_
    simp only [path_segment.l0]
    refine ev_ite_neg (by omega) (ev_const ?_)
    rw [List.drop_of_length_le (by rw [← size_L]; omega)]
    rfl
  | succ d ih =>
    intro i hi
    have hlt : i < (L s).length := by rw [← size_L]; omega
    refine ev_succ ?_
    simp only [path_segment.l0]
    refine ev_ite_pos (by omega) (ev_ite_pos (by omega) (ev_ite_pos (by omega) ?_))
    rw [drop_cons hlt, bt_L s i hlt, wsucc (by omega)]
    refine ev_bind (may_ev _) ?_
    rw [List.all_cons]
    cases hm : mayB (L s)[i] with
    | true => exact ev_ite_pos rfl (ev_eq (ih (i + 1) (by omega)) (by simp))
    | false => exact ev_ite_neg (by simp) (ev_const (by simp))
theorem segB_le {l : List UInt8} (h : ¬ l.length ≤ 32) : segB l = false := by unfold segB; simp [h]
theorem segment_ev (s : ByteArray) : Ev (fun k => path_segment.f k s) (segB (L s)) := by
  simp only [path_segment.f, toList_L]
  by_cases h0 : L s = []
  · refine ev_ite_pos h0 (ev_succ ?_)
    simp only [path_segment.j0]
    exact ev_ite_pos trivial (ev_const (by simp [segB, h0]))
  refine ev_ite_neg h0 ?_
  by_cases h1 : (s.size : Int) > 32
  · refine ev_ite_pos h1 (ev_succ ?_)
    simp only [path_segment.j0]
    exact ev_ite_pos trivial (ev_const (by rw [segB_le (by rw [← size_L]; omega)]))
  refine ev_ite_neg h1 ?_
  by_cases h2 : L s = [46]
  · refine ev_ite_pos h2 (ev_succ ?_)
    simp only [path_segment.j0]
    exact ev_ite_pos trivial (ev_const (by simp [segB, h2]))
  refine ev_ite_neg h2 (ev_succ ?_)
  simp only [path_segment.j0]
  by_cases h3 : L s = [46, 46]
  · exact ev_ite_pos (by simpa using h3) (ev_const (by simp [segB, h3]))
  refine ev_ite_neg (by simpa using h3) ?_
  refine ev_eq (segment_l0 s (by omega) s.size 0 (by omega)) ?_
  have h4 : (L s).length ≤ 32 := by rw [← size_L]; omega
  simp [segB, h0, h2, h3, h4]
theorem refseg_l0 (s : ByteArray) (hs : s.size ≤ 1000000) : ∀ d i : Nat, i + d = s.size → Ev (fun k => brickyardref09_Segment.l0 k s (i : Int)) (((L s).drop i).all mayB) := by
  intro d
  induction d with
  | zero =>
    intro i hi
    refine ev_succ ?_
    simp only [brickyardref09_Segment.l0]
    refine ev_ite_neg (by omega) (ev_const ?_)
    rw [List.drop_of_length_le (by rw [← size_L]; omega)]
    rfl
  | succ d ih =>
    intro i hi
    have hlt : i < (L s).length := by rw [← size_L]; omega
    refine ev_succ ?_
    simp only [brickyardref09_Segment.l0]
    refine ev_ite_pos (by omega) (ev_ite_pos (by omega) ?_)
    rw [drop_cons hlt, bt_L s i hlt, wsucc (by omega), List.all_cons]
    have hu := ih (i + 1) (by omega)
    cases hm : mayB (L s)[i] with
    | true =>
      unfold mayB at hm
      simp only [decide_eq_true_eq] at hm
      refine ev_eq (Ev.congr (fun k => ?_) hu) (by simp)
      repeat' split
      all_goals first | rfl | (exfalso; omega)
    | false =>
      unfold mayB at hm
      simp only [decide_eq_false_iff_not] at hm
      refine Ev.congr (f := fun _ => some false) (fun k => ?_) (ev_const (by simp))
      repeat' split
      all_goals first | rfl | (exfalso; omega)
theorem refseg_ev (s : ByteArray) : Ev (fun k => brickyardref09_Segment.f k s) (segB (L s)) := by
  simp only [brickyardref09_Segment.f, toList_L]
  have hsz := size_L s
  by_cases h0 : (s.size : Int) < 1
  · refine ev_ite_pos h0 (ev_succ ?_)
    simp only [brickyardref09_Segment.j0]
    have : L s = [] := List.eq_nil_of_length_eq_zero (by omega)
    exact ev_ite_pos trivial (ev_const (by simp [segB, this]))
  refine ev_ite_neg h0 ?_
  have h0' : L s ≠ [] := fun e => by rw [e, List.length_nil] at hsz; omega
  by_cases h1 : (s.size : Int) > 32
  · refine ev_ite_pos h1 (ev_succ ?_)
    simp only [brickyardref09_Segment.j0]
    exact ev_ite_pos trivial (ev_const (by rw [segB_le (by omega)]))
  refine ev_ite_neg h1 ?_
  by_cases h2 : L s = [46]
  · refine ev_ite_pos h2 (ev_succ ?_)
    simp only [brickyardref09_Segment.j0]
    exact ev_ite_pos trivial (ev_const (by simp [segB, h2]))
  refine ev_ite_neg h2 (ev_succ ?_)
  simp only [brickyardref09_Segment.j0]
  by_cases h3 : L s = [46, 46]
  · exact ev_ite_pos (by simpa using h3) (ev_const (by simp [segB, h3]))
  refine ev_ite_neg (by simpa using h3) ?_
  refine ev_eq (refseg_l0 s (by omega) s.size 0 (by omega)) ?_
  have h4 : (L s).length ≤ 32 := by omega
  simp [segB, h0', h2, h3, h4]
/-- strings.Cut at a slash. -/
theorem cut_none (s : ByteArray) (c : UInt8) (h : c ∉ L s) : strings_Cut.f s ⟨#[c]⟩ = some (s, ⟨#[]⟩, false) := by
  rcases ib_cases (L s) c with ⟨h1, _⟩ | ⟨i, _, hl, he, _⟩
  · unfold strings_Cut.f stringslite_Cut.f stringslite_Index.f
    have e : Lib.indexByte s.data.toList c = -1 := h1
    simp [show (⟨#[c]⟩ : ByteArray).size = 1 from rfl, e]
  · exact absurd (he ▸ List.mem_append_right _ List.mem_cons_self) h
theorem cut_some (s : ByteArray) (c : UInt8) (hs : s.size ≤ 4611686018427387904) (a b : List UInt8) (ha : c ∉ a) (he : L s = a ++ c :: b) : strings_Cut.f s ⟨#[c]⟩ = some (B a, B b, true) := by
  rcases ib_cases (L s) c with ⟨_, h1⟩ | ⟨i, h1, hl, he', hn⟩
  · exact absurd (he ▸ List.mem_append_right _ List.mem_cons_self) h1
  · have hi : i = a.length := by
      rcases Nat.lt_trichotomy i a.length with hlt | heq | hgt
      · exfalso
        have h2 : (L s)[i]? = some c := by rw [he']; rw [List.getElem?_append_right (by simp [List.length_take]; omega)]; simp [List.length_take]; rw [Nat.min_eq_left (by omega)]; simp
        rw [he, List.getElem?_append_left hlt] at h2
        exact ha (List.mem_of_getElem? h2)
      · exact heq
      · exfalso
        apply hn
        rw [he, List.take_append, List.take_of_length_le (by omega)]
        obtain ⟨m, hm⟩ : ∃ m, i - a.length = m + 1 := ⟨i - a.length - 1, by omega⟩
        rw [hm, List.take_succ_cons]
        exact List.mem_append_right _ List.mem_cons_self
    have hsz := size_L s
    have h3 : strings_Cut.f s ⟨#[c]⟩ = some (s.extract 0 i, s.extract (i + 1) s.size, true) := by
      have h1' : Lib.indexByte s.data.toList c = (i : Int) := h1
      unfold strings_Cut.f stringslite_Cut.f stringslite_Index.f
      rw [if_pos (show (⟨#[c]⟩ : ByteArray).size = 1 from rfl)]
      simp only [show (⟨#[c]⟩ : ByteArray).size = 1 from rfl, show (⟨#[c]⟩ : ByteArray).data.toList.headD 0 = c from rfl, h1', Option.bind_some]
      rw [if_pos (by omega), if_pos (by omega), if_pos (by omega), w64 (by omega) (by omega), if_pos (by omega), if_pos (by omega)]
      simp only [Option.bind_some]
      have e1 : ((i : Int)).toNat = i := by omega
      have e2 : ((i : Int) + ((1 : Nat) : Int)).toNat = i + 1 := by omega
      rw [e1, e2]
    rw [h3]
    congr 2
    · apply L_inj
      rw [L_extract, L_B, he, hi]
      simp
    · congr 1
      apply L_inj
      rw [L_extract, L_B, hsz, he, hi]
      simp only [List.length_append, List.length_cons]
      rw [show a.length + 1 = (a ++ [c]).length from by simp, show a ++ c :: b = (a ++ [c]) ++ b from by simp, List.drop_left]
      exact List.take_of_length_le (by simp; omega)
end Go.Proofs.Ytkldaghhfnpcjaa.Pl
