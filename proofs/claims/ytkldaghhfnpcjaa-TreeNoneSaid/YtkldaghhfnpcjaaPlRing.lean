/- The last changes, in a ring; sorting and striking twins, plainly. -/
import Derived.Test.YtkldaghhfnpcjaaPlSort
import Derived.Lib.SlicesCompact
namespace Go.Proofs.Ytkldaghhfnpcjaa.Pl
open Go.RowKit Go.Proofs.YtkldaghhfnpcjaaW.PrintWords

/-- what a ring of 32 places holds behind changes -/
def ringS (C : List ByteArray) : List ByteArray × Nat := C.foldl (fun r p => (r.1.set (r.2 % 32) p, r.2 + 1)) (List.replicate 32 ⟨#[]⟩, 0)
def ring (C : List ByteArray) : List ByteArray := (ringS C).1
theorem ringS_snoc (C : List ByteArray) (p : ByteArray) : ringS (C ++ [p]) = ((ringS C).1.set ((ringS C).2 % 32) p, (ringS C).2 + 1) := by
  unfold ringS
  rw [List.foldl_append]
  rfl
theorem snoc_ind {α : Type} {P : List α → Prop} (h0 : P []) (h1 : ∀ l a, P l → P (l ++ [a])) (l : List α) : P l := by
  have key : ∀ (n : Nat) (l : List α), l.length = n → P l := by
    intro n
    induction n with
    | zero => intro l hl; rw [List.eq_nil_of_length_eq_zero hl]; exact h0
    | succ n ih =>
      intro l hl
      rcases List.eq_nil_or_concat l with rfl | ⟨l', a, rfl⟩
      · exact h0
      · rw [List.concat_eq_append] at hl ⊢
        exact h1 l' a (ih l' (by simp at hl; exact hl))
  exact key l.length l rfl
theorem ring_inv (C : List ByteArray) : (ring C).length = 32 ∧ (ringS C).2 = C.length ∧ ∀ j, j < C.length → C.length ≤ j + 32 → (ring C)[j % 32]? = C[j]? := by
  refine snoc_ind (P := fun C => (ring C).length = 32 ∧ (ringS C).2 = C.length ∧ ∀ j, j < C.length → C.length ≤ j + 32 → (ring C)[j % 32]? = C[j]?) ?_ ?_ C
  · exact ⟨by rfl, rfl, fun j h => absurd h (Nat.not_lt_zero _)⟩
  · rintro C p ⟨h1, h2, h3⟩
    have e : ring (C ++ [p]) = (ring C).set (C.length % 32) p := by
      unfold ring
      rw [ringS_snoc, h2]
    refine ⟨by rw [e, List.length_set]; exact h1, by rw [ringS_snoc, h2]; simp, fun j hj hl => ?_⟩
    simp only [List.length_append, List.length_singleton] at hj hl
    rw [e]
    by_cases hjc : j = C.length
    · subst hjc
      rw [List.getElem?_set_self (by rw [h1]; exact Nat.mod_lt _ (by decide))]
      simp
    · have hjl : j < C.length := by omega
      rw [List.getElem?_set_ne (by omega), h3 j hjl (by omega), List.getElem?_append_left hjl]
theorem ring_snoc (C : List ByteArray) (p : ByteArray) : ring (C ++ [p]) = (ring C).set (C.length % 32) p := by
  unfold ring
  rw [ringS_snoc, (ring_inv C).2.1]
theorem ring_len (C : List ByteArray) : (ring C).length = 32 := (ring_inv C).1
theorem ring_get (C : List ByteArray) {j : Nat} (h : j < C.length) (h' : C.length ≤ j + 32) : (ring C)[j % 32]? = C[j]? := (ring_inv C).2.2 j h h'
def leL (x y : List UInt8) : Bool := decide (x ≤ y)
theorem leL_tr (a b c : List UInt8) (h : leL a b = true) (h' : leL b c = true) : leL a c = true := by
  unfold leL at *
  simp only [decide_eq_true_eq] at *
  exact List.le_trans h h'
theorem leL_tot (a b : List UInt8) : (leL a b || leL b a) = true := by
  unfold leL
  rw [Bool.or_eq_true, decide_eq_true_iff, decide_eq_true_iff]
  exact List.le_total a b
theorem lt_of_le {a b : List UInt8} (h : a ≤ b) (hne : a ≠ b) : a < b := by
  rcases Decidable.em (a < b) with h' | h'
  · exact h'
  · exact absurd (List.le_antisymm h (List.not_lt.1 h')) hne
/-- twins struck out of what does not fall -/
theorem compact_rise (zs : List (List UInt8)) (h : zs.Pairwise (fun a b => leL a b = true)) : (Lib.compact zs).Pairwise (· < ·) ∧ ∀ x, x ∈ Lib.compact zs ↔ x ∈ zs := by
  have hget : ∀ j, j < zs.length → zs.toArray[j]! = zs[j]! := fun j hj => by simp
  have hle : ∀ i j (hi : i ≤ j) (hj : j < zs.length), (zs[i]'(by omega)) ≤ zs[j] := by
    intro i j hi hj
    rcases Nat.eq_or_lt_of_le hi with rfl | hlt
    · exact List.le_refl _
    · have := List.pairwise_iff_getElem.1 h i j (by omega) hj hlt
      unfold leL at this
      exact of_decide_eq_true this
  unfold Lib.compact Lib.compactUpTo
  constructor
  · rw [List.pairwise_map]
    have hr : (List.range zs.length).Pairwise (· < ·) := List.pairwise_lt_range
    have hr2 := List.Pairwise.filter (Lib.keeps zs.toArray) hr
    refine hr2.imp_of_mem (fun {i j} hi hj hlt => ?_)
    have hj1 := List.mem_filter.1 hj
    have hi1 := List.mem_filter.1 hi
    have hjl : j < zs.length := List.mem_range.1 hj1.1
    have hil : i < zs.length := List.mem_range.1 hi1.1
    rw [getElem!_pos zs.toArray i (by simpa using hil), getElem!_pos zs.toArray j (by simpa using hjl)]
    simp only [List.getElem_toArray]
    have hk := hj1.2
    have hne : zs[j] ≠ zs[j - 1]'(by omega) := by
      intro e
      have := Lib.keeps_neg (d := zs.toArray) (m := j) (by omega) (by
        rw [getElem!_pos zs.toArray j (by simpa using hjl), getElem!_pos zs.toArray (j - 1) (by simp; omega)]
        simpa using e)
      rw [this] at hk
      cases hk
    have h1 := hle i (j - 1) (by omega) (by omega)
    have h2 := hle (j - 1) j (by omega) hjl
    have h3 := lt_of_le h2 (fun e => hne e.symm)
    exact List.lt_of_le_of_lt h1 h3
  · intro x
    constructor
    · intro hx
      obtain ⟨j, hj, rfl⟩ := List.mem_map.1 hx
      have hjl : j < zs.length := List.mem_range.1 (List.mem_filter.1 hj).1
      rw [getElem!_pos zs.toArray j (by simpa using hjl)]
      simp
    · intro hx
      obtain ⟨j, hj, rfl⟩ := List.getElem_of_mem hx
      have key : ∀ j (hj : j < zs.length), zs[j] ∈ ((List.range zs.length).filter (Lib.keeps zs.toArray)).map (zs.toArray[·]!) := by
        intro j
        induction j with
        | zero =>
          intro hj
          refine List.mem_map.2 ⟨0, List.mem_filter.2 ⟨List.mem_range.2 hj, Lib.keeps_lt_one _ 0 (by omega)⟩, ?_⟩
          rw [getElem!_pos zs.toArray 0 (by simpa using hj)]
          simp
        | succ j ih =>
          intro hj
          by_cases e : zs[j + 1] = zs[j]'(by omega)
          · rw [e]; exact ih (by omega)
          · refine List.mem_map.2 ⟨j + 1, List.mem_filter.2 ⟨List.mem_range.2 hj, Lib.keeps_pos ?_⟩, ?_⟩
            · rw [getElem!_pos zs.toArray (j + 1) (by simpa using hj), getElem!_pos zs.toArray (j + 1 - 1) (by simp; omega)]
              simpa using e
            · rw [getElem!_pos zs.toArray (j + 1) (by simpa using hj)]
              simp
      exact key j hj
/-- a list, sorted -/
def msrt (l : List ByteArray) : List ByteArray := ((l.map L).mergeSort leL).map B
theorem msrt_L (l : List ByteArray) : (msrt l).map L = (l.map L).mergeSort leL := by
  unfold msrt
  rw [List.map_map, show L ∘ B = id by funext x; exact L_B x, List.map_id]
theorem msrt_len (l : List ByteArray) : (msrt l).length = l.length := by simp [msrt, List.length_mergeSort]
theorem compact_srt (l : List ByteArray) : (Lib.compact ((l.map L).mergeSort leL)).map B = srt l := by
  obtain ⟨h1, h2⟩ := compact_rise ((l.map L).mergeSort leL) (List.pairwise_mergeSort leL_tr leL_tot _)
  refine ss_uniq _ _ ?_ (ss_srt l) (fun z => ?_)
  · unfold SS
    rw [List.pairwise_map]
    exact h1.imp (fun {a b} h => by unfold ltB; rw [L_B, L_B]; exact h)
  · rw [mem_srt]
    constructor
    · intro h
      obtain ⟨x, hx, rfl⟩ := List.mem_map.1 h
      have := (h2 x).1 hx
      rw [List.mem_mergeSort] at this
      obtain ⟨y, hy, rfl⟩ := List.mem_map.1 this
      rw [B_L]; exact hy
    · intro h
      exact List.mem_map.2 ⟨L z, (h2 _).2 (List.mem_mergeSort.2 (List.mem_map.2 ⟨z, h, rfl⟩)), B_L z⟩
/-- of a list without twins the sorted one rises -/
theorem msrt_srt {l : List ByteArray} (h : l.Nodup) : msrt l = srt l := by
  refine ss_uniq _ _ ?_ (ss_srt l) (fun z => ?_)
  · have hp := List.pairwise_mergeSort leL_tr leL_tot (l.map L)
    have hn : ((l.map L).mergeSort leL).Nodup := (List.mergeSort_perm _ _).nodup_iff.2 (List.pairwise_map.2 (h.imp fun {a b} hne e => hne (L_inj e)))
    unfold SS msrt
    rw [List.pairwise_map]
    refine (hp.and hn).imp (fun {a b} h => ?_)
    unfold ltB
    rw [L_B, L_B]
    exact lt_of_le (of_decide_eq_true h.1) h.2
  · rw [mem_srt]
    unfold msrt
    constructor
    · intro h
      obtain ⟨x, hx, rfl⟩ := List.mem_map.1 h
      rw [List.mem_mergeSort] at hx
      obtain ⟨y, hy, rfl⟩ := List.mem_map.1 hx
      rw [B_L]; exact hy
    · intro h
      exact List.mem_map.2 ⟨L z, List.mem_mergeSort.2 (List.mem_map.2 ⟨z, h, rfl⟩), B_L z⟩
end Go.Proofs.Ytkldaghhfnpcjaa.Pl
