/- Parents and bases of paths, plainly and as the printed functions tell them. -/
import Derived.Test.YtpphdmpnnnimdaaPlPathC
import Derived.Test.YtpphdmpnnnimdaaPxf17
import Derived.Test.YtpphdmpnnnimdaaPxf20
namespace Go.Proofs.Ytpphdmpnnnimdaa.Pl
open Go.RowKit Go.Proofs.YtpphdmpnnnimdaaW.PrintWords Go.Proofs.Ytpphdmpnnnimdaa.P
set_option linter.unusedSimpArgs false

theorem pieces_split (a b : List UInt8) : pieces (a ++ 47 :: b) = pieces a ++ pieces b := by
  induction a with
  | nil => rw [List.nil_append, pieces_slash]; rfl
  | cons c a ih =>
    by_cases hc : c = 47
    · subst hc
      rw [List.cons_append, pieces_slash, pieces_slash, ih]
      rfl
    · rw [List.cons_append, pieces_other hc, pieces_other hc, ih]
      have hn := pieces_ne a
      cases hp : pieces a with
      | nil => exact absurd hp hn
      | cons x r => simp
theorem join_glue (cur : List UInt8) (ps : List (List UInt8)) (h : ps ≠ []) : Lib.join (glue cur ps) [47] = cur ++ Lib.join ps [47] := by
  cases ps with
  | nil => exact absurd rfl h
  | cons a r => simp [glue, Lib.join_cons]
theorem join_pieces (l : List UInt8) : Lib.join (pieces l) [47] = l := by
  induction l with
  | nil => rfl
  | cons c l ih =>
    by_cases hc : c = 47
    · subst hc
      rw [pieces_slash, Lib.join_cons]
      have hn := pieces_ne l
      cases hp : pieces l with
      | nil => exact absurd hp hn
      | cons a r =>
        rw [hp, Lib.join_cons] at ih
        rw [← ih]
        simp [Lib.joinTail]
    · have := join_glue [c] (pieces l) (pieces_ne l)
      rw [pieces_other hc]
      rw [ih] at this
      exact this
theorem last_split {l : List UInt8} {c : UInt8} (h : c ∈ l) : ∃ a b, l = a ++ c :: b ∧ c ∉ b := by
  have h' : c ∈ l.reverse := List.mem_reverse.2 h
  obtain ⟨a, b, he, hn⟩ := first_split h'
  refine ⟨b.reverse, a.reverse, ?_, fun e => hn (List.mem_reverse.1 e)⟩
  have := congrArg List.reverse he
  rw [List.reverse_reverse] at this
  rw [this]
  simp
theorem walk_segs (ps : List (List UInt8)) (h : ∀ p ∈ ps, segB p = true) : ∀ kept qs, walk kept (ps ++ qs) = walk (kept ++ ps) qs := by
  induction ps with
  | nil => intro kept qs; simp
  | cons p ps ih =>
    intro kept qs
    have hp := h p List.mem_cons_self
    have h1 : ¬ (p = [] ∨ p = [46]) := by
      rintro (rfl | rfl) <;> simp [segB] at hp
    have h2 : ¬ p = [46, 46] := by
      rintro rfl
      simp [segB] at hp
    rw [List.cons_append, walk_cons, if_neg h1, if_neg h2, if_pos hp, ih (fun q hq => h q (List.mem_cons_of_mem _ hq))]
    simp
theorem isL_segs {l : List UInt8} (h : isL l = true) : ∀ p ∈ pieces l, segB p = true := by
  unfold isL at h
  simp only [Bool.and_eq_true, List.all_eq_true] at h
  exact h.2
theorem isL_len {l : List UInt8} (h : isL l = true) : l.length ≤ 60 := by
  unfold isL at h
  simp only [Bool.and_eq_true, decide_eq_true_eq] at h
  exact h.1
theorem isL_mk {l : List UInt8} (h1 : l.length ≤ 60) (h2 : ∀ p ∈ pieces l, segB p = true) : isL l = true := by
  unfold isL
  simp only [Bool.and_eq_true, decide_eq_true_eq, List.all_eq_true]
  exact ⟨h1, h2⟩
theorem walk_segs' (ps : List (List UInt8)) (h : ∀ p ∈ ps, segB p = true) (kept : List (List UInt8)) : walk kept ps = some (kept ++ ps) := by
  have := walk_segs ps h kept []
  rw [List.append_nil] at this
  rw [this]
  rfl
theorem norm_of_segs {l : List UInt8} (h : ∀ p ∈ pieces l, segB p = true) : normL l = if l.length > 60 then ([], 3) else (l, 0) := by
  unfold normL
  rw [walk_segs' _ h]
  simp only [List.nil_append, resOf, fin]
  rw [if_neg (pieces_ne l), join_pieces]
theorem norm_isL {l : List UInt8} (h : isL l = true) : normL l = (l, 0) := by
  rw [norm_of_segs (isL_segs h), if_neg]
  have := isL_len h
  omega
/-- a path's base, and its parent -/
def baseL (l : List UInt8) : List UInt8 := (pieces l).getLastD []
theorem getLastD_append {α : Type} (a : List α) (x d : α) : (a ++ [x]).getLastD d = x := by simp
theorem base_none {l : List UInt8} (h : (47 : UInt8) ∉ l) : baseL l = l := by unfold baseL; rw [pieces_one h]; rfl
theorem base_some {a b : List UInt8} (h : (47 : UInt8) ∉ b) : baseL (a ++ 47 :: b) = b := by
  unfold baseL
  rw [pieces_split, pieces_one h, getLastD_append]
theorem base_app (a b : List UInt8) : baseL (a ++ 47 :: b) = baseL b := by
  unfold baseL
  rw [pieces_split]
  have hn := pieces_ne b
  obtain ⟨r, x, hr⟩ : ∃ r x, pieces b = r ++ [x] := ⟨_, _, (List.dropLast_concat_getLast hn).symm⟩
  rw [hr, ← List.append_assoc, getLastD_append, getLastD_append]
/-! #### a byte's last place -/
def lastI (l : List UInt8) : Nat → UInt8 → Int
  | 0, _ => -1
  | n + 1, c => if l[n]? = some c then (n : Int) else lastI l n c
theorem lastI_skip (l : List UInt8) (c : UInt8) (m : Nat) : ∀ n, m ≤ n → (∀ j, m ≤ j → j < n → l[j]? ≠ some c) → lastI l n c = lastI l m c := by
  intro n
  induction n with
  | zero => intro h _; rw [Nat.le_zero.1 h]
  | succ n ih =>
    intro h hj
    by_cases e : m = n + 1
    · rw [e]
    · rw [lastI, if_neg (hj n (by omega) (by omega))]
      exact ih (by omega) (fun j h1 h2 => hj j h1 (by omega))
theorem lastI_none {l : List UInt8} {c : UInt8} (h : c ∉ l) : lastI l l.length c = -1 := by
  rw [lastI_skip l c 0 l.length (Nat.zero_le _) (fun j _ _ e => h (List.mem_of_getElem? e))]
  rfl
theorem lastI_some {a b : List UInt8} {c : UInt8} (h : c ∉ b) : lastI (a ++ c :: b) (a ++ c :: b).length c = (a.length : Int) := by
  rw [lastI_skip _ c (a.length + 1) _ (by simp) (fun j h1 _ e => h ?_)]
  · rw [lastI, if_pos (by simp)]
  · rw [show a ++ c :: b = (a ++ [c]) ++ b by simp, List.getElem?_append_right (by simp; omega)] at e
    exact List.mem_of_getElem? e
theorem last_l0 (s : ByteArray) (c : UInt8) (hs : s.size ≤ 4611686018427387904) : ∀ n : Nat, n ≤ s.size → Ev (fun k => bytealg_LastIndexByteString.l0 k s (c.toNat : Int) ((n : Int) - 1)) (lastI (L s) n c) := by
  intro n
  have hsz := size_L s
  induction n with
  | zero =>
    intro _
    refine ev_succ ?_
    simp only [bytealg_LastIndexByteString.l0]
    exact ev_ite_neg (by omega) (ev_const rfl)
  | succ n ih =>
    intro hn
    have hlt : n < (L s).length := by omega
    rw [show ((n + 1 : Nat) : Int) - 1 = (n : Int) by omega]
    refine ev_succ ?_
    simp only [bytealg_LastIndexByteString.l0]
    refine ev_ite_pos (by omega) (ev_ite_pos (by omega) (ev_ite_pos (by omega) ?_))
    rw [bt_L s n hlt, w64 (x := (n : Int) - 1) (by omega) (by omega), lastI, List.getElem?_eq_getElem hlt]
    by_cases e : (L s)[n] = c
    · rw [if_pos (by rw [e])]
      exact ev_ite_pos (by rw [e]) (ev_const rfl)
    · rw [if_neg (fun h => e (Option.some.inj h))]
      refine ev_ite_neg (fun h => e ?_) (ih (by omega))
      exact UInt8.toNat.inj (by omega)
theorem last_ev (s : ByteArray) (hs : s.size ≤ 4611686018427387904) : Ev (fun k => strings_LastIndexByte.f k s 47) (lastI (L s) (L s).length 47) := by
  unfold strings_LastIndexByte.f bytealg_LastIndexByteString.f
  have hsz := size_L s
  rw [w64 (x := (s.size : Int) - 1) (by omega) (by omega)]
  have := last_l0 s 47 hs s.size (Nat.le_refl _)
  refine ev_bind ?_ (ev_const rfl)
  rw [← hsz]
  exact this
/-- a path's parent, if it has one -/
def upL (l : List UInt8) : List UInt8 × Bool := if (47 : UInt8) ∈ l ∧ isL l = true then (Lib.join (pieces l).dropLast [47], true) else ([], false)
theorem up_some {a b : List UInt8} (h : (47 : UInt8) ∉ b) (hi : isL (a ++ 47 :: b) = true) : upL (a ++ 47 :: b) = (a, true) := by
  unfold upL
  rw [if_pos ⟨by simp, hi⟩, pieces_split, pieces_one h, List.dropLast_concat, join_pieces]
theorem parent_ev (s : ByteArray) (hs : s.size ≤ 4611686018427387904) : Ev (fun k => path_Parent.f k s) (B (upL (L s)).1, (upL (L s)).2) := by
  unfold path_Parent.f
  have hsz := size_L s
  refine ev_bind (last_ev s hs) ?_
  by_cases h : (47 : UInt8) ∈ L s
  · obtain ⟨a, b, he, hn⟩ := last_split h
    have hl : (L s).length = a.length + 1 + b.length := by rw [he]; simp; omega
    have e1 : lastI (L s) (L s).length 47 = (a.length : Int) := by rw [he]; exact lastI_some hn
    rw [e1]
    refine ev_ite_pos (by omega) (ev_bind (is_ev s) ?_)
    cases hi : isL (L s) with
    | false =>
      refine ev_ite_neg (by simp) (ev_const ?_)
      unfold upL
      rw [if_neg (by simp [hi])]
      rfl
    | true =>
      refine ev_ite_pos rfl (ev_ite_pos (by omega) (ev_ite_pos (by omega) (ev_const ?_)))
      have e2 : upL (L s) = (a, true) := by rw [he]; exact up_some hn (by rw [← he]; exact hi)
      rw [e2]
      congr 2
      apply L_inj
      rw [L_extract, L_B, he, Int.toNat_natCast]
      simp
  · rw [lastI_none h]
    refine ev_ite_neg (by omega) (ev_const ?_)
    unfold upL
    rw [if_neg (by simp [h])]
    rfl
theorem base_ev (s : ByteArray) (hi : isL (L s) = true) : Ev (fun k => path_Base.f k s) (B (baseL (L s))) := by
  unfold path_Base.f
  have hsz := size_L s
  have h60 := isL_len hi
  have h1 := is_ev s
  rw [hi] at h1
  refine ev_bind h1 (ev_ite_pos rfl (ev_bind (last_ev s (by omega)) ?_))
  by_cases h : (47 : UInt8) ∈ L s
  · obtain ⟨a, b, he, hn⟩ := last_split h
    have hl : (L s).length = a.length + 1 + b.length := by rw [he]; simp; omega
    have e1 : lastI (L s) (L s).length 47 = (a.length : Int) := by rw [he]; exact lastI_some hn
    rw [e1, wsucc (by omega)]
    refine ev_ite_pos (by omega) (ev_ite_pos (by omega) (ev_const ?_))
    congr 1
    apply L_inj
    rw [L_extract, L_B, he, base_some hn, Int.toNat_natCast, hsz, hl]
    rw [show a ++ 47 :: b = (a ++ [47]) ++ b by simp, show a.length + 1 = (a ++ [(47 : UInt8)]).length by simp, List.drop_left]
    exact List.take_of_length_le (by simp)
  · rw [lastI_none h, w64 (by omega) (by omega)]
    refine ev_ite_pos (by omega) (ev_ite_pos (by omega) (ev_const ?_))
    congr 1
    apply L_inj
    rw [L_extract, L_B, base_none h, hsz]
    simp
theorem base_no (s : ByteArray) (hi : isL (L s) = false) : Ev (fun k => path_Base.f k s) (⟨#[]⟩ : ByteArray) := by
  unfold path_Base.f
  have h1 := is_ev s
  rw [hi] at h1
  exact ev_bind h1 (ev_ite_neg (by simp) (ev_const rfl))
end Go.Proofs.Ytpphdmpnnnimdaa.Pl
