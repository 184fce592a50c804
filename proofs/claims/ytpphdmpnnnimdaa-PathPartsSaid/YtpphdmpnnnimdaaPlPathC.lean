/- The printed functions on paths come to the plain ones: the one form, by the program and by the reference. -/
import Derived.Test.YtpphdmpnnnimdaaPlPathB
namespace Go.Proofs.Ytpphdmpnnnimdaa.Pl
open Go.RowKit Go.Proofs.YtpphdmpnnnimdaaW.PrintWords Go.Proofs.Ytpphdmpnnnimdaa.P
set_option linter.unusedSimpArgs false

theorem refis_l0 (l : List (List UInt8)) (hl : l.length ≤ 1000000000000) : ∀ d i : Nat, i + d = l.length → Ev (fun k => brickyardref09_Is.l0 k (l.map B) (i : Int)) ((l.drop i).all segB) := by
  intro d
  induction d with
  | zero =>
    intro i hi
    refine ev_succ ?_
    simp only [brickyardref09_Is.l0]
    refine ev_ite_neg (by simp; omega) (ev_const ?_)
    rw [List.drop_of_length_le (by omega)]
    rfl
  | succ d ih =>
    intro i hi
    have hlt : i < l.length := by omega
    refine ev_succ ?_
    simp only [brickyardref09_Is.l0]
    refine ev_ite_pos (by simp; omega) (ev_ite_pos (by omega) ?_)
    rw [rd_B l i hlt, wsucc (by omega), drop_cons hlt, List.all_cons]
    refine ev_bind (refseg_ev _) ?_
    rw [L_B]
    cases hq : segB l[i] with
    | true => exact ev_ite_pos rfl (ev_eq (ih (i + 1) (by omega)) (by simp))
    | false => exact ev_ite_neg (by simp) (ev_const (by simp))
theorem refis_ev (s : ByteArray) : Ev (fun k => brickyardref09_Is.f k s) (isL (L s)) := by
  simp only [brickyardref09_Is.f]
  have hsz := size_L s
  by_cases h : (s.size : Int) > 60
  · refine ev_ite_pos h (ev_const ?_)
    have : ¬ (L s).length ≤ 60 := by omega
    simp [isL, this]
  · refine ev_ite_neg h (ev_bind (refcut_ev s (by omega)) ?_)
    have hp := pieces_length (L s)
    refine ev_eq (refis_l0 (pieces (L s)) (by omega) (pieces (L s)).length 0 (by omega)) ?_
    have : (L s).length ≤ 60 := by omega
    simp [isL, this]
/-- what is told: the text and the error -/
def told (r : List UInt8 × Int) : ByteArray × Int := (B r.1, r.2)
theorem walk_cons (kept : List (List UInt8)) (p : List UInt8) (ps : List (List UInt8)) : walk kept (p :: ps) = if p = [] ∨ p = [46] then walk kept ps else if p = [46, 46] then (if kept = [] then none else walk kept.dropLast ps) else if segB p = true then walk (kept ++ [p]) ps else none := by
  rw [walk]
theorem dropLast_take {α : Type} (l : List α) : l.take (l.length - 1) = l.dropLast := (List.dropLast_eq_take).symm
theorem lens_app (a b : List (List UInt8)) : Lib.lens (a ++ b) = Lib.lens a + Lib.lens b := by simp only [Lib.lens, List.map_append, List.sum_append]
theorem lens_dropLast (l : List (List UInt8)) : Lib.lens l.dropLast ≤ Lib.lens l := by
  rw [← dropLast_take]; exact lens_take _ _
theorem join_le (l : List (List UInt8)) : (Lib.join l [47]).length ≤ Lib.lens l + l.length := by
  cases l with
  | nil => simp [Lib.join_nil]
  | cons a r => rw [Lib.join_length, show ([47] : List UInt8).length * r.length = r.length from Nat.one_mul _, List.length_cons]; omega
theorem refnorm_end (kept : List (List UInt8)) (hk : Lib.lens kept + kept.length ≤ 1000000000000) :
    Ev (fun k => if ((kept.map B).length : Int) = 0 then (some ((⟨#[]⟩ : ByteArray), (2 : Int))) else ((brickyardref09_Join.f k (kept.map B)).bind fun t139 => (if (t139.size : Int) > 60 then (some ((⟨#[]⟩ : ByteArray), 3)) else (some (t139, 0))))) (told (fin kept)) := by
  unfold fin
  by_cases h : kept = []
  · subst h
    exact ev_ite_pos rfl (ev_const rfl)
  · rw [if_neg h]
    refine ev_ite_neg ?_ (ev_bind (refjoin_ev kept hk) ?_)
    · intro e
      apply h
      exact List.eq_nil_of_length_eq_zero (by simpa using e)
    · have hs := size_B (Lib.join kept [47])
      by_cases h2 : (Lib.join kept [47]).length > 60
      · rw [if_pos h2]
        exact ev_ite_pos (by omega) (ev_const rfl)
      · rw [if_neg h2]
        exact ev_ite_neg (by omega) (ev_const rfl)
theorem seg_len {l : List UInt8} (h : segB l = true) : l.length ≤ 32 := by
  by_cases h1 : l.length ≤ 32
  · exact h1
  · rw [segB_le h1] at h; cases h
theorem lens_seg {l : List (List UInt8)} (h : ∀ p ∈ l, segB p = true) : Lib.lens l ≤ 32 * l.length := by
  induction l with
  | nil => simp [Lib.lens]
  | cons a r ih =>
    have h1 := seg_len (h a List.mem_cons_self)
    have h2 := ih (fun p hp => h p (List.mem_cons_of_mem _ hp))
    rw [lens_cons, List.length_cons]
    omega
theorem map_take {α β : Type} (f : α → β) (l : List α) (n : Nat) : (l.map f).take n = (l.take n).map f := List.map_take.symm
theorem refnorm_l0 (l : List (List UInt8)) (hl : l.length ≤ 10000000000) : ∀ d i : Nat, ∀ kept : List (List UInt8), i + d = l.length → kept.length ≤ i → (∀ p ∈ kept, segB p = true) →
    Ev (fun k => brickyardref09_Norm.l0 k (l.map B) (kept.map B) (i : Int)) (told (resOf (walk kept (l.drop i)))) := by
  intro d
  induction d with
  | zero =>
    intro i kept hi hk hs
    refine ev_succ ?_
    simp only [brickyardref09_Norm.l0]
    refine ev_ite_neg (by simp; omega) ?_
    rw [List.drop_of_length_le (by omega)]
    have := lens_seg hs
    exact refnorm_end kept (by omega)
  | succ d ih =>
    intro i kept hi hk hs
    have hlt : i < l.length := by omega
    refine ev_succ ?_
    simp only [brickyardref09_Norm.l0]
    refine ev_ite_pos (by simp; omega) (ev_ite_pos (by omega) ?_)
    rw [rd_B l i hlt, toList_L, L_B, drop_cons hlt, walk_cons]
    have hj : ∀ b : Bool, b = decide (l[i] = [] ∨ l[i] = [46]) → Ev (fun k => brickyardref09_Norm.j1 k (l.map B) (kept.map B) (i : Int) b) (told (resOf (if l[i] = [] ∨ l[i] = [46] then walk kept (l.drop (i + 1)) else if l[i] = [46, 46] then (if kept = [] then none else walk kept.dropLast (l.drop (i + 1))) else if segB l[i] = true then walk (kept ++ [l[i]]) (l.drop (i + 1)) else none))) := by
      intro b hb
      refine ev_succ ?_
      simp only [brickyardref09_Norm.j1]
      by_cases h : l[i] = [] ∨ l[i] = [46]
      · rw [if_pos h]
        refine ev_ite_pos (by rw [hb]; exact decide_eq_true h) ?_
        rw [wsucc (by omega)]
        exact ih (i + 1) kept (by omega) (by omega) hs
      · rw [if_neg h]
        refine ev_ite_neg (by rw [hb, decide_eq_false h]; simp) (ev_ite_pos (by omega) (ev_ite_pos (by simp; omega) ?_))
        rw [rd_B l i hlt, toList_L, L_B]
        by_cases h2 : l[i] = [46, 46]
        · rw [if_pos h2]
          refine ev_ite_pos h2 ?_
          by_cases h3 : kept = []
          · rw [if_pos h3]
            subst h3
            exact ev_ite_pos rfl (ev_const rfl)
          · rw [if_neg h3]
            have hn : kept.length ≠ 0 := fun e => h3 (List.eq_nil_of_length_eq_zero e)
            refine ev_ite_neg (by rw [List.length_map]; omega) ?_
            rw [List.length_map, w64 (x := ((kept.length : Nat) : Int) - 1) (by omega) (by omega)]
            refine ev_ite_pos (by omega) (ev_ite_pos (by omega) ?_)
            rw [show (((kept.length : Nat) : Int) - 1).toNat = kept.length - 1 by omega, map_take, dropLast_take, wsucc (by omega)]
            exact ih (i + 1) kept.dropLast (by omega) (by rw [List.length_dropLast]; omega) (fun p hp => hs p (List.dropLast_subset _ hp))
        · rw [if_neg h2]
          refine ev_ite_neg h2 (ev_bind (refseg_ev _) ?_)
          rw [L_B]
          cases hq : segB l[i] with
          | false => exact ev_ite_neg (by simp) (ev_const rfl)
          | true =>
            refine ev_ite_pos rfl (ev_ite_pos (by rw [List.length_map]; omega) ?_)
            rw [wsucc (by omega), show kept.map B ++ [B l[i]] = (kept ++ [l[i]]).map B by simp]
            refine ih (i + 1) (kept ++ [l[i]]) (by omega) (by simp; omega) (fun p hp => ?_)
            rcases List.mem_append.1 hp with hp | hp
            · exact hs p hp
            · rw [List.mem_singleton.1 hp]; exact hq
    by_cases h : l[i] = []
    · exact ev_ite_pos h (hj true (by simp [h]))
    · refine ev_ite_neg h (hj _ ?_)
      rw [Bool.eq_iff_iff]
      simp [h]
theorem refnorm_ev (s : ByteArray) (hs : s.size ≤ 9000000000) : Ev (fun k => brickyardref09_Norm.f k s) (told (normL (L s))) := by
  simp only [brickyardref09_Norm.f]
  have hp := pieces_length (L s)
  have hsz := size_L s
  exact ev_bind (refcut_ev s (by omega)) (refnorm_l0 (pieces (L s)) (by omega) (pieces (L s)).length 0 [] (by omega) (by simp) (fun p hp => by cases hp))
/-! #### the program's -/
theorem sum_map_B (l : List (List UInt8)) : ((l.map B).map (fun x => (x.size : Int) + 1)).sum = (l.map (fun x => (x.length : Int) + 1)).sum := by
  rw [List.map_map]
  exact congrArg List.sum (List.map_congr_left (fun x _ => by simp [size_B]))
theorem sum_lens (r : List (List UInt8)) : (r.map (fun x => (x.length : Int) + 1)).sum = ((Lib.lens r : Nat) : Int) + (r.length : Int) := by
  induction r with
  | nil => rfl
  | cons y r ih => rw [lens_cons, List.map_cons, List.sum_cons, List.length_cons, ih]; omega
theorem pathnorm_end (kept : List (List UInt8)) (hk : Lib.lens kept + kept.length ≤ 1000000000000) : ∀ d i : Nat, i + d = kept.length →
    Ev (fun k => path_Norm.l1 k (kept.map B) (-1 + ((Lib.lens (kept.take i) + i : Nat) : Int)) (kept.map B) ((kept.length : Nat) : Int) (i : Int)) (told (fin kept)) := by
  intro d
  induction d with
  | zero =>
    intro i hi
    refine ev_succ ?_
    simp only [path_Norm.l1]
    refine ev_ite_neg (by omega) ?_
    rw [List.take_of_length_le (by omega)]
    unfold fin
    by_cases h : kept = []
    · subst h
      have h0 : Lib.lens [] = 0 := rfl
      simp at hi
      exact ev_ite_pos (by omega) (ev_const rfl)
    · rw [if_neg h]
      have hn : kept.length ≠ 0 := fun e => h (List.eq_nil_of_length_eq_zero e)
      have hj := join_len kept h
      rw [sum_lens] at hj
      refine ev_ite_neg (by omega) ?_
      by_cases h2 : (Lib.join kept [47]).length > 60
      · rw [if_pos h2]
        exact ev_ite_pos (by omega) (ev_const rfl)
      · rw [if_neg h2]
        refine ev_ite_neg (by omega) ?_
        have e : strings_Join.f (kept.map B) (⟨#[47]⟩ : ByteArray) = some (B (Lib.join kept [47])) := by
          unfold strings_Join.f
          have e1 : (kept.map B).map (fun x => x.data.toList) = kept := map_L_B kept
          rw [e1]
          exact if_pos ⟨by show (Lib.join kept [47]).length ≤ _; omega, by rw [List.length_map]; omega⟩
        rw [e]
        exact ev_const rfl
  | succ d ih =>
    intro i hi
    have hlt : i < kept.length := by omega
    refine ev_succ ?_
    simp only [path_Norm.l1]
    refine ev_ite_pos (by omega) (ev_ite_pos (by omega) (ev_ite_pos (by rw [List.length_map]; omega) ?_))
    have ht := lens_take kept (i + 1)
    have e : Lib.lens (kept.take (i + 1)) = Lib.lens (kept.take i) + kept[i].length := by
      rw [List.take_add_one, List.getElem?_eq_getElem hlt, lens_app]
      simp [Lib.lens]
    rw [rd_B kept i hlt, size_B, wsucc (i := kept[i].length) (by omega), wsucc (i := i) (by omega), w64 (x := -1 + ((Lib.lens (kept.take i) + i : Nat) : Int) + ((kept[i].length + 1 : Nat) : Int)) (by omega) (by omega)]
    rw [show -1 + ((Lib.lens (kept.take i) + i : Nat) : Int) + ((kept[i].length + 1 : Nat) : Int) = -1 + ((Lib.lens (kept.take (i + 1)) + (i + 1) : Nat) : Int) by omega]
    exact ih (i + 1) (by omega)
theorem pathnorm_done (s : ByteArray) (kept : List (List UInt8)) (hk : Lib.lens kept + kept.length ≤ 1000000000000) : Ev (fun k => path_Norm.l0 k s (kept.map B) false) (told (fin kept)) := by
  refine ev_succ ?_
  simp only [path_Norm.l0]
  refine ev_ite_neg (by simp) ?_
  have := pathnorm_end kept hk kept.length 0 (by omega)
  rw [List.length_map]
  exact this
theorem pathnorm_j1 (rest : ByteArray) (p : List UInt8) (ps : List (List UInt8)) (kept : List (List UInt8)) (more : Bool) (hk : kept.length ≤ 10000000000) (hs : ∀ p ∈ kept, segB p = true)
    (ih : ∀ kept' : List (List UInt8), kept'.length ≤ kept.length + 1 → (∀ p ∈ kept', segB p = true) → Ev (fun k => path_Norm.l0 k rest (kept'.map B) more) (told (resOf (walk kept' ps))))
    (b : Bool) (hb : b = decide (p = [] ∨ p = [46])) : Ev (fun k => path_Norm.j1 k rest (kept.map B) more (B p) (B p) b) (told (resOf (walk kept (p :: ps)))) := by
  rw [walk_cons]
  refine ev_succ ?_
  simp only [path_Norm.j1, toList_L, L_B]
  by_cases h : p = [] ∨ p = [46]
  · rw [if_pos h]
    refine ev_ite_pos (by rw [hb]; exact decide_eq_true h) ?_
    exact ih kept (by omega) hs
  · rw [if_neg h]
    refine ev_ite_neg (by rw [hb, decide_eq_false h]; simp) ?_
    by_cases h2 : p = [46, 46]
    · rw [if_pos h2]
      refine ev_ite_pos h2 ?_
      by_cases h3 : kept = []
      · rw [if_pos h3]
        subst h3
        exact ev_ite_pos rfl (ev_const rfl)
      · rw [if_neg h3]
        have hn : kept.length ≠ 0 := fun e => h3 (List.eq_nil_of_length_eq_zero e)
        refine ev_ite_neg (by rw [List.length_map]; omega) ?_
        rw [List.length_map, w64 (x := ((kept.length : Nat) : Int) - 1) (by omega) (by omega)]
        refine ev_ite_pos (by omega) (ev_ite_pos (by omega) ?_)
        rw [show (((kept.length : Nat) : Int) - 1).toNat = kept.length - 1 by omega, map_take, dropLast_take]
        exact ih kept.dropLast (by rw [List.length_dropLast]; omega) (fun p hp => hs p (List.dropLast_subset _ hp))
    · rw [if_neg h2]
      refine ev_ite_neg h2 (ev_bind (segment_ev _) ?_)
      rw [L_B]
      cases hq : segB p with
      | false => exact ev_ite_neg (by simp) (ev_const rfl)
      | true =>
        refine ev_ite_pos rfl (ev_ite_pos (by rw [List.length_map]; omega) ?_)
        rw [show kept.map B ++ [B p] = (kept ++ [p]).map B by simp]
        refine ih (kept ++ [p]) (by simp) (fun q hp => ?_)
        rcases List.mem_append.1 hp with hp | hp
        · exact hs q hp
        · rw [List.mem_singleton.1 hp]; exact hq
theorem pathnorm_l0 : ∀ d (s : ByteArray) (kept : List (List UInt8)), s.size ≤ d → d + kept.length ≤ 9500000000 → (∀ p ∈ kept, segB p = true) →
    Ev (fun k => path_Norm.l0 k s (kept.map B) true) (told (resOf (walk kept (pieces (L s))))) := by
  intro d
  induction d with
  | zero =>
    intro s kept h0 hd hs
    have hl : L s = [] := List.eq_nil_of_length_eq_zero (by rw [← size_L]; omega)
    refine ev_succ ?_
    simp only [path_Norm.l0]
    refine ev_ite_pos trivial ?_
    rw [cut_none s 47 (by rw [hl]; simp)]
    simp only [Option.bind_some, toList_L]
    rw [hl, show pieces [] = [[]] from rfl]
    have e : s = B [] := L_inj (by rw [hl, L_B])
    rw [e]
    refine ev_ite_pos rfl ?_
    refine pathnorm_j1 _ [] [] kept false (by omega) hs (fun kept' h1 h2 => ?_) _ (by simp)
    have := lens_seg h2
    exact pathnorm_done _ kept' (by omega)
  | succ d ih =>
    intro s kept h0 hd hs
    refine ev_succ ?_
    simp only [path_Norm.l0]
    refine ev_ite_pos trivial ?_
    have hj : ∀ (p : List UInt8) (rest : ByteArray) (ps : List (List UInt8)) (more : Bool) (_ : ∀ kept' : List (List UInt8), kept'.length ≤ kept.length + 1 → (∀ p ∈ kept', segB p = true) → Ev (fun k => path_Norm.l0 k rest (kept'.map B) more) (told (resOf (walk kept' ps)))),
        Ev (fun k => if (B p).toList = ([] : List UInt8) then (path_Norm.j1 k rest (kept.map B) more (B p) (B p) ((B p).toList == ([] : List UInt8))) else (path_Norm.j1 k rest (kept.map B) more (B p) (B p) ((B p).toList == ([46] : List UInt8)))) (told (resOf (walk kept (p :: ps)))) := by
      intro p rest ps more hih
      simp only [toList_L, L_B]
      by_cases hp : p = []
      · exact ev_ite_pos hp (pathnorm_j1 rest p ps kept more (by omega) hs hih _ (by simp [hp]))
      · refine ev_ite_neg hp (pathnorm_j1 rest p ps kept more (by omega) hs hih _ ?_)
        rw [Bool.eq_iff_iff]
        simp [hp]
    by_cases h : (47 : UInt8) ∈ L s
    · obtain ⟨a, b, he, hn⟩ := first_split h
      have hsz : s.size = a.length + 1 + b.length := by rw [size_L, he]; simp; omega
      rw [cut_some s 47 (by omega) a b hn he]
      simp only [Option.bind_some]
      rw [he, pieces_cut hn]
      refine hj a (B b) (pieces b) true (fun kept' h1 h2 => ?_)
      have := ih (B b) kept' (by rw [size_B]; omega) (by omega) h2
      rw [L_B] at this
      exact this
    · rw [cut_none s 47 h]
      simp only [Option.bind_some]
      rw [pieces_one h]
      have e : s = B (L s) := (B_L s).symm
      have := hj (L s) ⟨#[]⟩ [] false (fun kept' h1 h2 => by
        have := lens_seg h2
        exact pathnorm_done _ kept' (by omega))
      rw [← e] at this
      exact this
theorem pathnorm_ev (s : ByteArray) (hs : s.size ≤ 9000000000) : Ev (fun k => path_Norm.f k s) (told (normL (L s))) := by
  simp only [path_Norm.f]
  exact pathnorm_l0 s.size s [] (Nat.le_refl _) (by simp; omega) (fun p hp => by cases hp)
end Go.Proofs.Ytpphdmpnnnimdaa.Pl
