/- The reference's parents and base, and a path's parents one above the other. -/
import Derived.Test.YtpphdmpnnnimdaaPlPathD
import Derived.Test.YtpphdmpnnnimdaaGAbove
import Derived.Test.YtpphdmpnnnimdaaPxf18
import Derived.Test.YtpphdmpnnnimdaaPxf21
import Derived.Test.YtpphdmpnnnimdaaPxf22
namespace Go.Proofs.Ytpphdmpnnnimdaa.Pl
open Go.RowKit Go.Proofs.YtpphdmpnnnimdaaW.PrintWords Go.Proofs.Ytpphdmpnnnimdaa.P
set_option linter.unusedSimpArgs false

theorem pieces_pos (l : List UInt8) : 0 < (pieces l).length := List.length_pos_iff.2 (pieces_ne l)
theorem two_pieces {l : List UInt8} : (47 : UInt8) ∈ l ↔ 2 ≤ (pieces l).length := by
  constructor
  · intro h
    obtain ⟨a, b, he, hn⟩ := last_split h
    rw [he, pieces_split, List.length_append]
    have h1 := pieces_pos a
    have h2 := pieces_pos b
    omega
  · intro h
    by_cases h' : (47 : UInt8) ∈ l
    · exact h'
    · rw [pieces_one h'] at h
      simp at h
theorem refparent_ev (s : ByteArray) (hs : s.size ≤ 1000000000000) : Ev (fun k => brickyardref09_Parent.f k s) (B (upL (L s)).1, (upL (L s)).2) := by
  unfold brickyardref09_Parent.f
  have hsz := size_L s
  refine ev_bind (refcut_ev s hs) (ev_bind (refis_ev s) ?_)
  have hp := pieces_length (L s)
  have hn := pieces_pos (L s)
  cases hi : isL (L s) with
  | false =>
    refine ev_ite_neg (by simp) (ev_const ?_)
    unfold upL
    rw [if_neg (by simp [hi])]
    rfl
  | true =>
    refine ev_ite_pos rfl ?_
    rw [List.length_map]
    by_cases h : (47 : UInt8) ∈ L s
    · have h2 := two_pieces.1 h
      rw [w64 (by omega) (by omega)]
      have e : (((pieces (L s)).length : Int) - 1).toNat = (pieces (L s)).length - 1 := by omega
      have hd : (pieces (L s)).dropLast.length ≤ (pieces (L s)).length := by rw [List.length_dropLast]; omega
      have hl : Lib.lens (pieces (L s)) ≤ 32 * (pieces (L s)).length := lens_seg (isL_segs hi)
      have hl2 := lens_dropLast (pieces (L s))
      have h60 := isL_len hi
      refine ev_ite_neg (by omega) (ev_ite_pos (by omega) (ev_ite_pos (by omega) ?_))
      rw [e, map_take, dropLast_take]
      refine ev_bind (refjoin_ev _ (by omega)) (ev_const ?_)
      unfold upL
      rw [if_pos ⟨h, hi⟩]
    · rw [pieces_one h]
      refine ev_ite_pos (by simp) (ev_const ?_)
      unfold upL
      rw [if_neg (by simp [h])]
      rfl
theorem refbase_ev (s : ByteArray) (hs : s.size ≤ 1000000000000) (hi : isL (L s) = true) : Ev (fun k => brickyardref09_Base.f k s) (B (baseL (L s))) := by
  unfold brickyardref09_Base.f
  have hsz := size_L s
  have h1 := refis_ev s
  rw [hi] at h1
  have hp := pieces_length (L s)
  have hn := pieces_pos (L s)
  refine ev_bind h1 (ev_ite_pos rfl (ev_bind (refcut_ev s hs) ?_))
  rw [List.length_map, w64 (by omega) (by omega)]
  have e : ((pieces (L s)).length : Int) - 1 = (((pieces (L s)).length - 1 : Nat) : Int) := by omega
  refine ev_ite_pos (by omega) (ev_ite_pos (by omega) (ev_const ?_))
  rw [e, rd_B _ _ (by omega)]
  congr 2
  unfold baseL
  rw [List.getLastD_eq_getLast?, List.getLast?_eq_getElem?, List.getElem?_eq_getElem (by omega)]
  rfl
theorem refbase_no (s : ByteArray) (hi : isL (L s) = false) : Ev (fun k => brickyardref09_Base.f k s) (⟨#[]⟩ : ByteArray) := by
  unfold brickyardref09_Base.f
  have h1 := refis_ev s
  rw [hi] at h1
  exact ev_bind h1 (ev_ite_neg (by simp) (ev_const rfl))
theorem bases (s : ByteArray) (hs : s.size ≤ 1000000000000) : ∃ b, Ev (fun k => path_Base.f k s) b ∧ Ev (fun k => brickyardref09_Base.f k s) b := by
  cases hi : isL (L s) with
  | true => exact ⟨_, base_ev s hi, refbase_ev s hs hi⟩
  | false => exact ⟨_, base_no s hi, refbase_no s hi⟩
theorem up_lt {l : List UInt8} (h : (upL l).2 = true) : (upL l).1.length < l.length := by
  by_cases h' : (47 : UInt8) ∈ l ∧ isL l = true
  · obtain ⟨a, b, he, hn⟩ := last_split h'.1
    have := up_some (a := a) (b := b) hn (by rw [← he]; exact h'.2)
    rw [he, this]
    simp
  · unfold upL at h
    rw [if_neg h'] at h
    cases h
theorem ups_ev : ∀ d (s : ByteArray) (out : List ByteArray), s.size ≤ d → d + out.length ≤ 1000000000000 →
    ∃ xs, xs.length ≤ d ∧ Ups s xs ∧ Ev (fun k => brickyardref09_Above.l0 k s out) (out ++ xs) := by
  intro d
  induction d with
  | zero =>
    intro s out h1 h2
    have hu : (upL (L s)).2 = false := by
      cases h : (upL (L s)).2 with
      | false => rfl
      | true => have := up_lt h; have := size_L s; omega
    have hp := parent_ev s (by omega)
    have hr := refparent_ev s (by omega)
    rw [hu] at hp hr
    refine ⟨[], Nat.le_refl _, .nil (ev_some hp), ev_succ ?_⟩
    rw [List.append_nil]
    simp only [brickyardref09_Above.l0]
    exact ev_bind hr (ev_ite_neg (by simp) (ev_const rfl))
  | succ d ih =>
    intro s out h1 h2
    have hp := parent_ev s (by omega)
    have hr := refparent_ev s (by omega)
    cases h : (upL (L s)).2 with
    | false =>
      rw [h] at hp hr
      refine ⟨[], by simp, .nil (ev_some hp), ev_succ ?_⟩
      rw [List.append_nil]
      simp only [brickyardref09_Above.l0]
      exact ev_bind hr (ev_ite_neg (by simp) (ev_const rfl))
    | true =>
      rw [h] at hp hr
      have hlt := up_lt h
      have hsz := size_L s
      have hq := size_B (upL (L s)).1
      obtain ⟨xs, hx1, hx2, hx3⟩ := ih (B (upL (L s)).1) (out ++ [B (upL (L s)).1]) (by omega) (by simp; omega)
      refine ⟨B (upL (L s)).1 :: xs, by simp; omega, .cons (ev_some hp) (by omega) hx2, ev_succ ?_⟩
      simp only [brickyardref09_Above.l0]
      refine ev_bind hr (ev_ite_pos rfl (ev_ite_pos (by omega) (ev_eq hx3 (by simp))))
/-- The reference's list is the chain of the program's parents. -/
theorem above_ev (s : ByteArray) (hs : s.size ≤ 100000000000) : ∃ xs, xs.length ≤ s.size ∧ Ups s xs ∧ Ev (fun k => brickyardref09_Above.f k s) xs := by
  obtain ⟨xs, h1, h2, h3⟩ := ups_ev s.size s [] (Nat.le_refl _) (by simp; omega)
  exact ⟨xs, h1, h2, h3⟩
end Go.Proofs.Ytpphdmpnnnimdaa.Pl
