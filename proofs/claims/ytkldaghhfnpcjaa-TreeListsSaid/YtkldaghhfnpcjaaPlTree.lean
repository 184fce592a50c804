/- Folded: PlSort, PlRing, PlTree. -/
import Derived.Test.YtkldaghhfnpcjaaPlBase
import Derived.Sort.Walk0
import Derived.Lib.SlicesCompact
import Derived.Test.YtkldaghhfnpcjaaPlPath
/- Rising lists of texts, plainly. -/
namespace Go.Proofs.Ytkldaghhfnpcjaa.Pl
open Go.RowKit Go.Proofs.YtkldaghhfnpcjaaW.PrintWords

theorem lt_irr (a : List UInt8) : ¬ a < a := List.lt_irrefl a
theorem lt_tr {a b c : List UInt8} (h : a < b) (h' : b < c) : a < c := List.lt_trans h h'
theorem lt_or {a b : List UInt8} (h : ¬ a < b) (hne : a ≠ b) : b < a := by
  rcases Decidable.em (b < a) with h' | h'
  · exact h'
  · exact absurd (List.le_antisymm (List.not_lt.1 h') (List.not_lt.1 h)) hne
theorem lt_ne {a b : List UInt8} (h : a < b) : a ≠ b := fun e => lt_irr b (by rw [e] at h; exact h)
/-- is a text less than another one? -/
def ltB (x y : ByteArray) : Prop := L x < L y
instance (x y : ByteArray) : Decidable (ltB x y) := inferInstanceAs (Decidable (L x < L y))
theorem less_ltB (x y : ByteArray) : Op.bytesLess x.toList y.toList = true ↔ ltB x y := by
  rw [Go.Proofs.bytesLess_eq, decide_eq_true_iff, toList_L, toList_L]
  rfl
theorem less_eq (x y : ByteArray) : Op.bytesLess x.toList y.toList = decide (ltB x y) := by
  rw [Bool.eq_iff_iff, less_ltB, decide_eq_true_iff]
theorem ltB_irr (x : ByteArray) : ¬ ltB x x := lt_irr _
theorem ltB_tr {x y z : ByteArray} (h : ltB x y) (h' : ltB y z) : ltB x z := lt_tr h h'
theorem ltB_or {x y : ByteArray} (h : ¬ ltB x y) (hne : x ≠ y) : ltB y x := lt_or h (fun e => hne (L_inj e))
theorem ltB_asymm {x y : ByteArray} (h : ltB x y) : ¬ ltB y x := fun h' => ltB_irr x (ltB_tr h h')
theorem ltB_ne {x y : ByteArray} (h : ltB x y) : x ≠ y := fun e => ltB_irr y (by rw [e] at h; exact h)
/-- a text in its place, once -/
def ins (x : ByteArray) : List ByteArray → List ByteArray
  | [] => [x]
  | y :: t => if ltB y x then y :: ins x t else if y = x then y :: t else x :: y :: t
/-- texts, rising, each once -/
def srt (l : List ByteArray) : List ByteArray := l.foldl (fun a x => ins x a) []
def SS (l : List ByteArray) : Prop := l.Pairwise ltB
theorem mem_ins (x z : ByteArray) : ∀ l, z ∈ ins x l ↔ z = x ∨ z ∈ l
  | [] => by simp [ins]
  | y :: t => by
    unfold ins
    split
    · rw [List.mem_cons, mem_ins x z t, List.mem_cons]
      constructor
      · rintro (h | h | h)
        · exact .inr (.inl h)
        · exact .inl h
        · exact .inr (.inr h)
      · rintro (h | h | h)
        · exact .inr (.inl h)
        · exact .inl h
        · exact .inr (.inr h)
    · split
      · rename_i h; subst h; simp
      · simp
theorem ss_ins (x : ByteArray) : ∀ l, SS l → SS (ins x l)
  | [], _ => by simp [SS, ins]
  | y :: t, h => by
    have h1 := List.pairwise_cons.1 h
    unfold ins
    split
    · rename_i hlt
      refine List.pairwise_cons.2 ⟨fun z hz => ?_, ss_ins x t h1.2⟩
      rcases (mem_ins x z t).1 hz with rfl | hz
      · exact hlt
      · exact h1.1 z hz
    · rename_i hlt
      split
      · exact h
      · rename_i hne
        have hxy : ltB x y := ltB_or hlt hne
        refine List.pairwise_cons.2 ⟨fun z hz => ?_, h⟩
        rcases List.mem_cons.1 hz with rfl | hz
        · exact hxy
        · exact ltB_tr hxy (h1.1 z hz)
theorem foldl_ins (l : List ByteArray) : ∀ acc, SS acc → SS (l.foldl (fun a x => ins x a) acc) ∧ ∀ z, z ∈ l.foldl (fun a x => ins x a) acc ↔ z ∈ acc ∨ z ∈ l := by
  induction l with
  | nil => intro acc h; exact ⟨h, fun z => by simp⟩
  | cons x l ih =>
    intro acc h
    obtain ⟨h1, h2⟩ := ih (ins x acc) (ss_ins x acc h)
    refine ⟨h1, fun z => ?_⟩
    rw [List.foldl_cons, h2 z, mem_ins, List.mem_cons]
    constructor
    · rintro ((h | h) | h)
      · exact .inr (.inl h)
      · exact .inl h
      · exact .inr (.inr h)
    · rintro (h | h | h)
      · exact .inl (.inr h)
      · exact .inl (.inl h)
      · exact .inr h
theorem ss_srt (l : List ByteArray) : SS (srt l) := (foldl_ins l [] List.Pairwise.nil).1
theorem mem_srt (l : List ByteArray) (z : ByteArray) : z ∈ srt l ↔ z ∈ l := by
  rw [srt, (foldl_ins l [] List.Pairwise.nil).2 z]
  simp
theorem ss_uniq : ∀ a b : List ByteArray, SS a → SS b → (∀ z, z ∈ a ↔ z ∈ b) → a = b
  | [], [], _, _, _ => rfl
  | [], y :: t, _, _, h => absurd ((h y).2 List.mem_cons_self) List.not_mem_nil
  | x :: s, [], _, _, h => absurd ((h x).1 List.mem_cons_self) List.not_mem_nil
  | x :: s, y :: t, ha, hb, h => by
    have ha' := List.pairwise_cons.1 ha
    have hb' := List.pairwise_cons.1 hb
    have hxy : x = y := by
      rcases List.mem_cons.1 ((h x).1 List.mem_cons_self) with e | hx
      · exact e
      · rcases List.mem_cons.1 ((h y).2 List.mem_cons_self) with e | hy
        · exact e.symm
        · exact absurd (ha'.1 y hy) (ltB_asymm (hb'.1 x hx))
    subst hxy
    rw [ss_uniq s t ha'.2 hb'.2 (fun z => ?_)]
    have hz := h z
    rw [List.mem_cons, List.mem_cons] at hz
    constructor
    · intro hs
      rcases hz.1 (.inr hs) with e | ht
      · subst e; exact absurd (ha'.1 z hs) (ltB_irr z)
      · exact ht
    · intro ht
      rcases hz.2 (.inr ht) with e | hs
      · subst e; exact absurd (hb'.1 z ht) (ltB_irr z)
      · exact hs
theorem srt_ext {a b : List ByteArray} (h : ∀ z, z ∈ a ↔ z ∈ b) : srt a = srt b := ss_uniq _ _ (ss_srt a) (ss_srt b) (fun z => by rw [mem_srt, mem_srt, h z])
theorem srt_same {a : List ByteArray} (h : SS a) : srt a = a := ss_uniq _ _ (ss_srt a) h (mem_srt a)
theorem ss_nodup {a : List ByteArray} (h : SS a) : a.Nodup := h.imp (fun h => ltB_ne h)
theorem ins_len (x : ByteArray) : ∀ l, (ins x l).length ≤ l.length + 1
  | [] => by simp [ins]
  | y :: t => by
    unfold ins
    split
    · have := ins_len x t; simp; omega
    · split <;> simp
theorem srt_len (l : List ByteArray) : (srt l).length ≤ l.length := by
  have key : ∀ l acc : List ByteArray, (l.foldl (fun a x => ins x a) acc).length ≤ acc.length + l.length := by
    intro l
    induction l with
    | nil => intro acc; simp
    | cons x l ih => intro acc; have h1 := ih (ins x acc); have h2 := ins_len x acc; simp at h1 ⊢; omega
  have := key l []
  simpa [srt] using this
end Go.Proofs.Ytkldaghhfnpcjaa.Pl
/- The last changes, in a ring; sorting and striking twins, plainly. -/
namespace Go.Proofs.Ytkldaghhfnpcjaa.Pl
open Go.RowKit Go.Proofs.YtkldaghhfnpcjaaW.PrintWords

/-- what a ring of 32 places holds behind changes -/
def ringS (C : List ByteArray) : List ByteArray × Nat := C.foldl (fun r p => (r.1.set (r.2 % 32) p, r.2 + 1)) (List.replicate 32 ⟨#[]⟩, 0)
def ring (C : List ByteArray) : List ByteArray := (ringS C).1
theorem ringS_snoc (C : List ByteArray) (p : ByteArray) : ringS (C ++ [p]) = ((ringS C).1.set ((ringS C).2 % 32) p, (ringS C).2 + 1) := by
  unfold ringS
  rw [List.foldl_append]
  rfl
theorem snoc_ind {α : Type} {P : List α → Prop} (h0 : P []) (h1 : ∀ l a, P l → P (l ++ [a])) (l : List α) : P l := by
  have key : ∀ (n : Nat) (l : List α), l.length = n → P l := by
    intro n
    induction n with
    | zero => intro l hl; rw [List.eq_nil_of_length_eq_zero hl]; exact h0
    | succ n ih =>
      intro l hl
      rcases List.eq_nil_or_concat l with rfl | ⟨l', a, rfl⟩
      · exact h0
      · rw [List.concat_eq_append] at hl ⊢
        exact h1 l' a (ih l' (by simp at hl; exact hl))
  exact key l.length l rfl
theorem ring_inv (C : List ByteArray) : (ring C).length = 32 ∧ (ringS C).2 = C.length ∧ ∀ j, j < C.length → C.length ≤ j + 32 → (ring C)[j % 32]? = C[j]? := by
  refine snoc_ind (P := fun C => (ring C).length = 32 ∧ (ringS C).2 = C.length ∧ ∀ j, j < C.length → C.length ≤ j + 32 → (ring C)[j % 32]? = C[j]?) ?_ ?_ C
  · exact ⟨by rfl, rfl, fun j h => absurd h (Nat.not_lt_zero _)⟩
  · rintro C p ⟨h1, h2, h3⟩
    have e : ring (C ++ [p]) = (ring C).set (C.length % 32) p := by
      unfold ring
      rw [ringS_snoc, h2]
    refine ⟨by rw [e, List.length_set]; exact h1, by rw [ringS_snoc, h2]; simp, fun j hj hl => ?_⟩
    simp only [List.length_append, List.length_singleton] at hj hl
    rw [e]
    by_cases hjc : j = C.length
    · subst hjc
      rw [List.getElem?_set_self (by rw [h1]; exact Nat.mod_lt _ (by decide))]
      simp
    · have hjl : j < C.length := by omega
      rw [List.getElem?_set_ne (by omega), h3 j hjl (by omega), List.getElem?_append_left hjl]
theorem ring_snoc (C : List ByteArray) (p : ByteArray) : ring (C ++ [p]) = (ring C).set (C.length % 32) p := by
  unfold ring
  rw [ringS_snoc, (ring_inv C).2.1]
theorem ring_len (C : List ByteArray) : (ring C).length = 32 := (ring_inv C).1
theorem ring_get (C : List ByteArray) {j : Nat} (h : j < C.length) (h' : C.length ≤ j + 32) : (ring C)[j % 32]? = C[j]? := (ring_inv C).2.2 j h h'
def leL (x y : List UInt8) : Bool := decide (x ≤ y)
theorem leL_tr (a b c : List UInt8) (h : leL a b = true) (h' : leL b c = true) : leL a c = true := by
  unfold leL at *
  simp only [decide_eq_true_eq] at *
  exact List.le_trans h h'
theorem leL_tot (a b : List UInt8) : (leL a b || leL b a) = true := by
  unfold leL
  rw [Bool.or_eq_true, decide_eq_true_iff, decide_eq_true_iff]
  exact List.le_total a b
theorem lt_of_le {a b : List UInt8} (h : a ≤ b) (hne : a ≠ b) : a < b := by
  rcases Decidable.em (a < b) with h' | h'
  · exact h'
  · exact absurd (List.le_antisymm h (List.not_lt.1 h')) hne
/-- twins struck out of what does not fall -/
theorem compact_rise (zs : List (List UInt8)) (h : zs.Pairwise (fun a b => leL a b = true)) : (Lib.compact zs).Pairwise (· < ·) ∧ ∀ x, x ∈ Lib.compact zs ↔ x ∈ zs := by
  have hget : ∀ j, j < zs.length → zs.toArray[j]! = zs[j]! := fun j hj => by simp
  have hle : ∀ i j (hi : i ≤ j) (hj : j < zs.length), (zs[i]'(by omega)) ≤ zs[j] := by
    intro i j hi hj
    rcases Nat.eq_or_lt_of_le hi with rfl | hlt
    · exact List.le_refl _
    · have := List.pairwise_iff_getElem.1 h i j (by omega) hj hlt
      unfold leL at this
      exact of_decide_eq_true this
  unfold Lib.compact Lib.compactUpTo
  constructor
  · rw [List.pairwise_map]
    have hr : (List.range zs.length).Pairwise (· < ·) := List.pairwise_lt_range
    have hr2 := List.Pairwise.filter (Lib.keeps zs.toArray) hr
    refine hr2.imp_of_mem (fun {i j} hi hj hlt => ?_)
    have hj1 := List.mem_filter.1 hj
    have hi1 := List.mem_filter.1 hi
    have hjl : j < zs.length := List.mem_range.1 hj1.1
    have hil : i < zs.length := List.mem_range.1 hi1.1
    rw [getElem!_pos zs.toArray i (by simpa using hil), getElem!_pos zs.toArray j (by simpa using hjl)]
    simp only [List.getElem_toArray]
    have hk := hj1.2
    have hne : zs[j] ≠ zs[j - 1]'(by omega) := by
      intro e
      have := Lib.keeps_neg (d := zs.toArray) (m := j) (by omega) (by
        rw [getElem!_pos zs.toArray j (by simpa using hjl), getElem!_pos zs.toArray (j - 1) (by simp; omega)]
        simpa using e)
      rw [this] at hk
      cases hk
    have h1 := hle i (j - 1) (by omega) (by omega)
    have h2 := hle (j - 1) j (by omega) hjl
    have h3 := lt_of_le h2 (fun e => hne e.symm)
    exact List.lt_of_le_of_lt h1 h3
  · intro x
    constructor
    · intro hx
      obtain ⟨j, hj, rfl⟩ := List.mem_map.1 hx
      have hjl : j < zs.length := List.mem_range.1 (List.mem_filter.1 hj).1
      rw [getElem!_pos zs.toArray j (by simpa using hjl)]
      simp
    · intro hx
      obtain ⟨j, hj, rfl⟩ := List.getElem_of_mem hx
      have key : ∀ j (hj : j < zs.length), zs[j] ∈ ((List.range zs.length).filter (Lib.keeps zs.toArray)).map (zs.toArray[·]!) := by
        intro j
        induction j with
        | zero =>
          intro hj
          refine List.mem_map.2 ⟨0, List.mem_filter.2 ⟨List.mem_range.2 hj, Lib.keeps_lt_one _ 0 (by omega)⟩, ?_⟩
          rw [getElem!_pos zs.toArray 0 (by simpa using hj)]
          simp
        | succ j ih =>
          intro hj
          by_cases e : zs[j + 1] = zs[j]'(by omega)
          · rw [e]; exact ih (by omega)
          · refine List.mem_map.2 ⟨j + 1, List.mem_filter.2 ⟨List.mem_range.2 hj, Lib.keeps_pos ?_⟩, ?_⟩
            · rw [getElem!_pos zs.toArray (j + 1) (by simpa using hj), getElem!_pos zs.toArray (j + 1 - 1) (by simp; omega)]
              simpa using e
            · rw [getElem!_pos zs.toArray (j + 1) (by simpa using hj)]
              simp
      exact key j hj
/-- a list, sorted -/
def msrt (l : List ByteArray) : List ByteArray := ((l.map L).mergeSort leL).map B
theorem msrt_L (l : List ByteArray) : (msrt l).map L = (l.map L).mergeSort leL := by
  unfold msrt
  rw [List.map_map, show L ∘ B = id by funext x; exact L_B x, List.map_id]
theorem msrt_len (l : List ByteArray) : (msrt l).length = l.length := by simp [msrt, List.length_mergeSort]
theorem compact_srt (l : List ByteArray) : (Lib.compact ((l.map L).mergeSort leL)).map B = srt l := by
  obtain ⟨h1, h2⟩ := compact_rise ((l.map L).mergeSort leL) (List.pairwise_mergeSort leL_tr leL_tot _)
  refine ss_uniq _ _ ?_ (ss_srt l) (fun z => ?_)
  · unfold SS
    rw [List.pairwise_map]
    exact h1.imp (fun {a b} h => by unfold ltB; rw [L_B, L_B]; exact h)
  · rw [mem_srt]
    constructor
    · intro h
      obtain ⟨x, hx, rfl⟩ := List.mem_map.1 h
      have := (h2 x).1 hx
      rw [List.mem_mergeSort] at this
      obtain ⟨y, hy, rfl⟩ := List.mem_map.1 this
      rw [B_L]; exact hy
    · intro h
      exact List.mem_map.2 ⟨L z, (h2 _).2 (List.mem_mergeSort.2 (List.mem_map.2 ⟨z, h, rfl⟩)), B_L z⟩
/-- of a list without twins the sorted one rises -/
theorem msrt_srt {l : List ByteArray} (h : l.Nodup) : msrt l = srt l := by
  refine ss_uniq _ _ ?_ (ss_srt l) (fun z => ?_)
  · have hp := List.pairwise_mergeSort leL_tr leL_tot (l.map L)
    have hn : ((l.map L).mergeSort leL).Nodup := (List.mergeSort_perm _ _).nodup_iff.2 (List.pairwise_map.2 (h.imp fun {a b} hne e => hne (L_inj e)))
    unfold SS msrt
    rw [List.pairwise_map]
    refine (hp.and hn).imp (fun {a b} h => ?_)
    unfold ltB
    rw [L_B, L_B]
    exact lt_of_le (of_decide_eq_true h.1) h.2
  · rw [mem_srt]
    unfold msrt
    constructor
    · intro h
      obtain ⟨x, hx, rfl⟩ := List.mem_map.1 h
      rw [List.mem_mergeSort] at hx
      obtain ⟨y, hy, rfl⟩ := List.mem_map.1 hx
      rw [B_L]; exact hy
    · intro h
      exact List.mem_map.2 ⟨L z, List.mem_mergeSort.2 (List.mem_map.2 ⟨z, h, rfl⟩), B_L z⟩
end Go.Proofs.Ytkldaghhfnpcjaa.Pl
/- Trees of files, plainly: files rising by path, all changes there were. -/
namespace Go.Proofs.Ytkldaghhfnpcjaa.Pl
open Go.RowKit Go.Proofs.YtkldaghhfnpcjaaW.PrintWords

abbrev Fs := List (ByteArray × ByteArray)
/-- rising by path -/
def FS (l : Fs) : Prop := l.Pairwise (fun a b => ltB a.1 b.1)
def fget : Fs → ByteArray → Option ByteArray
  | [], _ => none
  | x :: t, p => if x.1 = p then some x.2 else fget t p
def fput : Fs → ByteArray → ByteArray → Fs
  | [], p, s => [(p, s)]
  | x :: t, p, s => if ltB x.1 p then x :: fput t p s else if x.1 = p then (p, s) :: t else (p, s) :: x :: t
def fdel : Fs → ByteArray → Fs
  | [], _ => []
  | x :: t, p => if x.1 = p then t else x :: fdel t p
/-- where a path stands, or would stand -/
def fat : Fs → ByteArray → Nat
  | [], _ => 0
  | x :: t, p => if ltB x.1 p then fat t p + 1 else 0
theorem FS.tail {x : ByteArray × ByteArray} {t : Fs} (h : FS (x :: t)) : FS t := (List.pairwise_cons.1 h).2
theorem FS.head {x : ByteArray × ByteArray} {t : Fs} (h : FS (x :: t)) : ∀ y ∈ t, ltB x.1 y.1 := (List.pairwise_cons.1 h).1
theorem fget_none {l : Fs} {p : ByteArray} (h : ∀ x ∈ l, x.1 ≠ p) : fget l p = none := by
  induction l with
  | nil => rfl
  | cons x t ih => rw [fget, if_neg (h x List.mem_cons_self)]; exact ih (fun y hy => h y (List.mem_cons_of_mem _ hy))
theorem fget_mem {l : Fs} {p s : ByteArray} (h : fget l p = some s) : (p, s) ∈ l := by
  induction l with
  | nil => cases h
  | cons x t ih =>
    rw [fget] at h
    split at h
    · rename_i e
      have := Option.some.inj h
      rw [← e, ← this]
      exact List.mem_cons_self
    · exact List.mem_cons_of_mem _ (ih h)
theorem fget_of_mem {l : Fs} (hl : FS l) {p s : ByteArray} (h : (p, s) ∈ l) : fget l p = some s := by
  induction l with
  | nil => cases h
  | cons x t ih =>
    rcases List.mem_cons.1 h with rfl | h
    · rw [fget, if_pos rfl]
    · rw [fget, if_neg (fun e => ltB_irr p (by have := hl.head _ h; rw [e] at this; exact this))]
      exact ih hl.tail h
theorem fget_iff {l : Fs} (hl : FS l) {p s : ByteArray} : fget l p = some s ↔ (p, s) ∈ l := ⟨fget_mem, fget_of_mem hl⟩
theorem fget_some_iff {l : Fs} {p : ByteArray} : (fget l p).isSome = true ↔ p ∈ l.map (·.1) := by
  induction l with
  | nil => simp [fget]
  | cons x t ih =>
    rw [fget]
    split
    · rename_i e; simp [e]
    · rename_i e
      rw [ih, List.map_cons, List.mem_cons]
      constructor
      · exact fun h => .inr h
      · rintro (h | h)
        · exact absurd h.symm e
        · exact h
theorem fput_mem (p s : ByteArray) (y : ByteArray × ByteArray) : ∀ l : Fs, y ∈ fput l p s → y = (p, s) ∨ y ∈ l
  | [], h => by simp [fput] at h; exact .inl h
  | x :: t, h => by
    rw [fput] at h
    split at h
    · rcases List.mem_cons.1 h with rfl | h
      · exact .inr List.mem_cons_self
      · rcases fput_mem p s y t h with h | h
        · exact .inl h
        · exact .inr (List.mem_cons_of_mem _ h)
    · split at h
      · rcases List.mem_cons.1 h with rfl | h
        · exact .inl rfl
        · exact .inr (List.mem_cons_of_mem _ h)
      · rcases List.mem_cons.1 h with rfl | h
        · exact .inl rfl
        · exact .inr h
theorem FS.put {l : Fs} (h : FS l) (p s : ByteArray) : FS (fput l p s) := by
  induction l with
  | nil => simp [fput, FS]
  | cons x t ih =>
    rw [fput]
    split
    · rename_i hlt
      refine List.pairwise_cons.2 ⟨fun y hy => ?_, ih h.tail⟩
      rcases fput_mem p s y t hy with rfl | hy
      · exact hlt
      · exact h.head y hy
    · rename_i hlt
      split
      · rename_i e
        refine List.pairwise_cons.2 ⟨fun y hy => ?_, h.tail⟩
        show ltB p y.1
        rw [← e]; exact h.head y hy
      · rename_i e
        have hp : ltB p x.1 := ltB_or hlt e
        refine List.pairwise_cons.2 ⟨fun y hy => ?_, h⟩
        rcases List.mem_cons.1 hy with rfl | hy
        · exact hp
        · exact ltB_tr hp (h.head y hy)
theorem fget_put {l : Fs} (h : FS l) (p s q : ByteArray) : fget (fput l p s) q = if q = p then some s else fget l q := by
  induction l with
  | nil =>
    rw [fput, fget, fget]
    by_cases e : q = p
    · rw [if_pos e, if_pos e.symm]
    · rw [if_neg e, if_neg (fun e' => e e'.symm)]
      rfl
  | cons x t ih =>
    rw [fput]
    split
    · rename_i hlt
      rw [fget, fget, ih h.tail]
      by_cases e : x.1 = q
      · rw [if_pos e, if_pos e, if_neg (fun e' => ltB_ne hlt (by rw [e, e']))]
      · rw [if_neg e, if_neg e]
    · split
      · rename_i e0
        rw [fget, fget]
        by_cases e : q = p
        · rw [if_pos e.symm, if_pos e]
        · rw [if_neg (fun e' => e e'.symm), if_neg e, if_neg (fun e' => e (by rw [← e', e0]))]
      · rw [fget]
        by_cases e : q = p
        · rw [if_pos e.symm, if_pos e]
        · rw [if_neg (fun e' => e e'.symm), if_neg e]
theorem fdel_mem (p : ByteArray) (y : ByteArray × ByteArray) : ∀ l : Fs, y ∈ fdel l p → y ∈ l
  | [], h => h
  | x :: t, h => by
    rw [fdel] at h
    split at h
    · exact List.mem_cons_of_mem _ h
    · rcases List.mem_cons.1 h with rfl | h
      · exact List.mem_cons_self
      · exact List.mem_cons_of_mem _ (fdel_mem p y t h)
theorem FS.del {l : Fs} (h : FS l) (p : ByteArray) : FS (fdel l p) := by
  induction l with
  | nil => exact h
  | cons x t ih =>
    rw [fdel]
    split
    · exact h.tail
    · exact List.pairwise_cons.2 ⟨fun y hy => h.head y (fdel_mem p y t hy), ih h.tail⟩
theorem fget_del {l : Fs} (h : FS l) (p q : ByteArray) : fget (fdel l p) q = if q = p then none else fget l q := by
  induction l with
  | nil => rw [fdel]; split <;> rfl
  | cons x t ih =>
    rw [fdel]
    split
    · rename_i e
      by_cases hq : q = p
      · rw [if_pos hq, hq]
        exact fget_none (fun y hy e' => ltB_irr p (by have := h.head y hy; rw [e, e'] at this; exact this))
      · rw [if_neg hq, fget, if_neg (fun e' => hq (by rw [← e', e]))]
    · rename_i e
      rw [fget, fget, ih h.tail]
      by_cases hq : x.1 = q
      · rw [if_pos hq, if_pos hq, if_neg (fun e' => e (by rw [hq, e']))]
      · rw [if_neg hq, if_neg hq]
theorem fput_new {l : Fs} (p s : ByteArray) (h : fget l p = none) : (fput l p s).length = l.length + 1 := by
  induction l with
  | nil => rfl
  | cons x t ih =>
    rw [fget] at h
    split at h
    · cases h
    · rename_i e
      rw [fput]
      split
      · simp [ih h]
      · first | (rw [if_neg e]; simp) | simp
theorem fput_old {l : Fs} (hl : FS l) (p s : ByteArray) {u : ByteArray} (h : fget l p = some u) : (fput l p s).length = l.length := by
  induction l with
  | nil => cases h
  | cons x t ih =>
    rw [fget] at h
    rw [fput]
    split
    · rename_i hlt
      rw [if_neg (ltB_ne hlt)] at h
      simp [ih hl.tail h]
    · split
      · simp
      · rename_i hlt e
        rw [if_neg e] at h
        exfalso
        obtain ⟨y, hy, e2⟩ := List.mem_map.1 (fget_some_iff.1 (show (fget t p).isSome = true by rw [h]; rfl))
        exact hlt (by rw [← e2]; exact hl.head y hy)
theorem fdel_len {l : Fs} (p : ByteArray) {u : ByteArray} (h : fget l p = some u) : (fdel l p).length + 1 = l.length := by
  induction l with
  | nil => cases h
  | cons x t ih =>
    rw [fget] at h
    rw [fdel]
    split
    · simp
    · rename_i e
      rw [if_neg e] at h
      simp [ih h]
theorem fat_le (l : Fs) (p : ByteArray) : fat l p ≤ l.length := by
  induction l with
  | nil => simp [fat]
  | cons x t ih => rw [fat]; split <;> simp <;> omega
theorem fat_lt {l : Fs} {p : ByteArray} : ∀ j (h : j < fat l p) (h' : j < l.length), ltB l[j].1 p := by
  induction l with
  | nil => intro j h; simp [fat] at h
  | cons x t ih =>
    intro j h h'
    rw [fat] at h
    split at h
    · rename_i hlt
      cases j with
      | zero => exact hlt
      | succ j => exact ih j (by omega) (by simp at h'; omega)
    · omega
theorem fat_not {l : Fs} {p : ByteArray} (h' : fat l p < l.length) : ¬ ltB (l[fat l p]'h').1 p := by
  induction l with
  | nil => simp at h'
  | cons x t ih =>
    by_cases hlt : ltB x.1 p
    · have e : fat (x :: t) p = fat t p + 1 := by rw [fat, if_pos hlt]
      have h2 : fat t p < t.length := by rw [e] at h'; simp at h'; omega
      have := ih h2
      simp only [e, List.getElem_cons_succ]
      exact this
    · have e : fat (x :: t) p = 0 := by rw [fat, if_neg hlt]
      simp only [e, List.getElem_cons_zero]
      exact hlt
/-- is it there? -/
theorem fget_fat {l : Fs} (hl : FS l) (p : ByteArray) : fget l p = if h : fat l p < l.length then (if (l[fat l p]'h).1 = p then some (l[fat l p]'h).2 else none) else none := by
  induction l with
  | nil => simp [fget]
  | cons x t ih =>
    by_cases hlt : ltB x.1 p
    · have e : fat (x :: t) p = fat t p + 1 := by rw [fat, if_pos hlt]
      rw [fget, if_neg (ltB_ne hlt), ih hl.tail]
      by_cases h2 : fat t p < t.length
      · have h3 : fat (x :: t) p < (x :: t).length := by rw [e]; simp; omega
        rw [dif_pos h2, dif_pos h3]
        simp only [e, List.getElem_cons_succ]
      · have h3 : ¬ fat (x :: t) p < (x :: t).length := by rw [e]; simp; omega
        rw [dif_neg h2, dif_neg h3]
    · have e : fat (x :: t) p = 0 := by rw [fat, if_neg hlt]
      have h3 : fat (x :: t) p < (x :: t).length := by rw [e]; simp
      rw [dif_pos h3]
      simp only [e, List.getElem_cons_zero]
      rw [fget]
      split
      · rfl
      · rename_i hne
        refine fget_none (fun y hy e' => ?_)
        have h4 := hl.head y hy
        rw [e'] at h4
        exact hlt h4
theorem fput_fat {l : Fs} (p s : ByteArray) : fput l p s = l.take (fat l p) ++ (p, s) :: l.drop (if h : fat l p < l.length then (if (l[fat l p]'h).1 = p then fat l p + 1 else fat l p) else fat l p) := by
  induction l with
  | nil => simp [fput, fat]
  | cons x t ih =>
    by_cases hlt : ltB x.1 p
    · have e : fat (x :: t) p = fat t p + 1 := by rw [fat, if_pos hlt]
      rw [fput, if_pos hlt, ih]
      by_cases h2 : fat t p < t.length
      · have h3 : fat (x :: t) p < (x :: t).length := by rw [e]; simp; omega
        rw [dif_pos h2, dif_pos h3]
        simp only [e, List.getElem_cons_succ, List.take_succ_cons, List.cons_append]
        split <;> simp
      · have h3 : ¬ fat (x :: t) p < (x :: t).length := by rw [e]; simp; omega
        rw [dif_neg h2, dif_neg h3]
        simp [e]
    · have e : fat (x :: t) p = 0 := by rw [fat, if_neg hlt]
      have h3 : fat (x :: t) p < (x :: t).length := by rw [e]; simp
      rw [dif_pos h3, fput, if_neg hlt]
      simp only [e, List.getElem_cons_zero, List.take_zero, List.nil_append]
      split <;> simp
theorem fdel_fat {l : Fs} (hl : FS l) (p : ByteArray) {u : ByteArray} (h : fget l p = some u) : fdel l p = l.take (fat l p) ++ l.drop (fat l p + 1) := by
  induction l with
  | nil => cases h
  | cons x t ih =>
    by_cases hlt : ltB x.1 p
    · have e : fat (x :: t) p = fat t p + 1 := by rw [fat, if_pos hlt]
      rw [fget, if_neg (ltB_ne hlt)] at h
      rw [fdel, if_neg (ltB_ne hlt), ih hl.tail h, e]
      simp
    · have e : fat (x :: t) p = 0 := by rw [fat, if_neg hlt]
      rw [e, fdel]
      rw [fget] at h
      split
      · simp
      · rename_i hne
        rw [if_neg hne] at h
        obtain ⟨y, hy, e2⟩ := List.mem_map.1 (fget_some_iff.1 (show (fget t p).isSome = true by rw [h]; rfl))
        exact absurd (by rw [← e2]; exact hl.head y hy) hlt
/-- a tree: its files, all its changes -/
structure TS where
  fs : Fs
  cs : List ByteArray
def isP (p : ByteArray) : Bool := isL (L p)
def readT (S : TS) (p : ByteArray) : ByteArray × Int :=
  if isP p = true then (match fget S.fs p with | some s => (s, 0) | none => (⟨#[]⟩, 4)) else (⟨#[]⟩, 2)
def writeT (S : TS) (p s : ByteArray) : TS × Int :=
  if isP p = true then
    (if 4096 < s.size then (S, 3) else
      if fget S.fs p = some s then (S, 0) else
      if fget S.fs p = none ∧ S.fs.length = 256 then (S, 8) else (⟨fput S.fs p s, S.cs ++ [p]⟩, 0))
  else (S, 2)
def removeT (S : TS) (p : ByteArray) : TS × Int :=
  if (readT S p).2 = 0 then (⟨fdel S.fs p, S.cs ++ [p]⟩, 0) else (S, (readT S p).2)
def startsB (p pre : ByteArray) : Bool := (L p).take (L pre).length == L pre
def listT (S : TS) (pre : ByteArray) : List ByteArray := (S.fs.map (·.1)).filter (startsB · pre)
def sinceT (S : TS) (mark : Int) : List ByteArray × Bool :=
  if 0 ≤ mark ∧ mark ≤ S.cs.length ∧ S.cs.length - mark ≤ 32 then (srt (S.cs.drop mark.toNat), true) else ([], false)
/-- a tree as it may be -/
structure TOk (S : TS) : Prop where
  rise : FS S.fs
  few : S.fs.length ≤ 256
  short : ∀ x ∈ S.fs, isP x.1 = true ∧ x.2.size ≤ 4096
  path : ∀ p ∈ S.cs, isP p = true
theorem isP_size {p : ByteArray} (h : isP p = true) : p.size ≤ 60 := by
  unfold isP isL at h
  rw [Bool.and_eq_true, decide_eq_true_iff, ← size_L] at h
  exact h.1
theorem TOk.empty : TOk ⟨[], []⟩ := ⟨List.Pairwise.nil, Nat.zero_le _, (fun x h => by cases h), (fun x h => by cases h)⟩
theorem TOk.write {S : TS} (h : TOk S) (p s : ByteArray) : TOk (writeT S p s).1 := by
  unfold writeT
  by_cases hp : isP p = true
  · rw [if_pos hp]
    by_cases hs : 4096 < s.size
    · rw [if_pos hs]; exact h
    rw [if_neg hs]
    by_cases h1 : fget S.fs p = some s
    · rw [if_pos h1]; exact h
    rw [if_neg h1]
    by_cases h2 : fget S.fs p = none ∧ S.fs.length = 256
    · rw [if_pos h2]; exact h
    rw [if_neg h2]
    refine ⟨h.rise.put p s, ?_, fun x hx => ?_, fun q hq => ?_⟩
    · show (fput S.fs p s).length ≤ 256
      have hf := h.few
      cases hg : fget S.fs p with
      | none => rw [fput_new p s hg]; have : S.fs.length ≠ 256 := fun e => h2 ⟨hg, e⟩; omega
      | some u => rw [fput_old h.rise p s hg]; exact hf
    · rcases fput_mem p s x S.fs hx with rfl | hx
      · exact ⟨hp, by show s.size ≤ 4096; omega⟩
      · exact h.short x hx
    · rcases List.mem_append.1 hq with hq | hq
      · exact h.path q hq
      · rw [List.mem_singleton.1 hq]; exact hp
  · rw [if_neg hp]; exact h
theorem readT_zero {S : TS} {p : ByteArray} : (readT S p).2 = 0 ↔ isP p = true ∧ ∃ s, fget S.fs p = some s ∧ (readT S p).1 = s := by
  unfold readT
  by_cases hp : isP p = true
  · rw [if_pos hp]
    cases fget S.fs p with
    | none => simp
    | some s => simp [hp]
  · rw [if_neg hp]; simp [hp]
theorem TOk.remove {S : TS} (h : TOk S) (p : ByteArray) : TOk (removeT S p).1 := by
  unfold removeT
  by_cases hr : (readT S p).2 = 0
  · rw [if_pos hr]
    obtain ⟨hp, s, hs, _⟩ := readT_zero.1 hr
    refine ⟨h.rise.del p, ?_, fun x hx => h.short x (fdel_mem p x S.fs hx), fun q hq => ?_⟩
    · show (fdel S.fs p).length ≤ 256
      have := fdel_len p hs
      have := h.few
      omega
    · rcases List.mem_append.1 hq with hq | hq
      · exact h.path q hq
      · rw [List.mem_singleton.1 hq]; exact hp
  · rw [if_neg hr]; exact h
end Go.Proofs.Ytkldaghhfnpcjaa.Pl
