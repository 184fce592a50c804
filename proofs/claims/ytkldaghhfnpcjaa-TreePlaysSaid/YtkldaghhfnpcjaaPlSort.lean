/- Rising lists of texts, plainly. -/
import Derived.Test.YtkldaghhfnpcjaaPlBase
import Derived.Sort.Walk0
namespace Go.Proofs.Ytkldaghhfnpcjaa.Pl
open Go.RowKit Go.Proofs.YtkldaghhfnpcjaaW.PrintWords

theorem lt_irr (a : List UInt8) : ¬ a < a := List.lt_irrefl a
theorem lt_tr {a b c : List UInt8} (h : a < b) (h' : b < c) : a < c := List.lt_trans h h'
theorem lt_or {a b : List UInt8} (h : ¬ a < b) (hne : a ≠ b) : b < a := by
  rcases Decidable.em (b < a) with h' | h'
  · exact h'
  · exact absurd (List.le_antisymm (List.not_lt.1 h') (List.not_lt.1 h)) hne
theorem lt_ne {a b : List UInt8} (h : a < b) : a ≠ b := fun e => lt_irr b (by rw [e] at h; exact h)
/-- is a text less than another one? -/
def ltB (x y : ByteArray) : Prop := L x < L y
instance (x y : ByteArray) : Decidable (ltB x y) := inferInstanceAs (Decidable (L x < L y))
theorem less_ltB (x y : ByteArray) : Op.bytesLess x.toList y.toList = true ↔ ltB x y := by
  rw [Go.Proofs.bytesLess_eq, decide_eq_true_iff, toList_L, toList_L]
  rfl
theorem less_eq (x y : ByteArray) : Op.bytesLess x.toList y.toList = decide (ltB x y) := by
  rw [Bool.eq_iff_iff, less_ltB, decide_eq_true_iff]
theorem ltB_irr (x : ByteArray) : ¬ ltB x x := lt_irr _
theorem ltB_tr {x y z : ByteArray} (h : ltB x y) (h' : ltB y z) : ltB x z := lt_tr h h'
theorem ltB_or {x y : ByteArray} (h : ¬ ltB x y) (hne : x ≠ y) : ltB y x := lt_or h (fun e => hne (L_inj e))
theorem ltB_asymm {x y : ByteArray} (h : ltB x y) : ¬ ltB y x := fun h' => ltB_irr x (ltB_tr h h')
theorem ltB_ne {x y : ByteArray} (h : ltB x y) : x ≠ y := fun e => ltB_irr y (by rw [e] at h; exact h)
/-- a text in its place, once -/
def ins (x : ByteArray) : List ByteArray → List ByteArray
  | [] => [x]
  | y :: t => if ltB y x then y :: ins x t else if y = x then y :: t else x :: y :: t
/-- texts, rising, each once -/
def srt (l : List ByteArray) : List ByteArray := l.foldl (fun a x => ins x a) []
def SS (l : List ByteArray) : Prop := l.Pairwise ltB
theorem mem_ins (x z : ByteArray) : ∀ l, z ∈ ins x l ↔ z = x ∨ z ∈ l
  | [] => by simp [ins]
  | y :: t => by
    unfold ins
    split
    · rw [List.mem_cons, mem_ins x z t, List.mem_cons]
      constructor
      · rintro (h | h | h)
        · exact .inr (.inl h)
        · exact .inl h
        · exact .inr (.inr h)
      · rintro (h | h | h)
        · exact .inr (.inl h)
        · exact .inl h
        · exact .inr (.inr h)
    · split
      · rename_i h; subst h; simp
      · simp
theorem ss_ins (x : ByteArray) : ∀ l, SS l → SS (ins x l)
  | [], _ => by simp [SS, ins]
  | y :: t, h => by
    have h1 := List.pairwise_cons.1 h
    unfold ins
    split
    · rename_i hlt
      refine List.pairwise_cons.2 ⟨fun z hz => ?_, ss_ins x t h1.2⟩
      rcases (mem_ins x z t).1 hz with rfl | hz
      · exact hlt
      · exact h1.1 z hz
    · rename_i hlt
      split
      · exact h
      · rename_i hne
        have hxy : ltB x y := ltB_or hlt hne
        refine List.pairwise_cons.2 ⟨fun z hz => ?_, h⟩
        rcases List.mem_cons.1 hz with rfl | hz
        · exact hxy
        · exact ltB_tr hxy (h1.1 z hz)
theorem foldl_ins (l : List ByteArray) : ∀ acc, SS acc → SS (l.foldl (fun a x => ins x a) acc) ∧ ∀ z, z ∈ l.foldl (fun a x => ins x a) acc ↔ z ∈ acc ∨ z ∈ l := by
  induction l with
  | nil => intro acc h; exact ⟨h, fun z => by simp⟩
  | cons x l ih =>
    intro acc h
    obtain ⟨h1, h2⟩ := ih (ins x acc) (ss_ins x acc h)
    refine ⟨h1, fun z => ?_⟩
    rw [List.foldl_cons, h2 z, mem_ins, List.mem_cons]
    constructor
    · rintro ((h | h) | h)
      · exact .inr (.inl h)
      · exact .inl h
      · exact .inr (.inr h)
    · rintro (h | h | h)
      · exact .inl (.inr h)
      · exact .inl (.inl h)
      · exact .inr h
theorem ss_srt (l : List ByteArray) : SS (srt l) := (foldl_ins l [] List.Pairwise.nil).1
theorem mem_srt (l : List ByteArray) (z : ByteArray) : z ∈ srt l ↔ z ∈ l := by
  rw [srt, (foldl_ins l [] List.Pairwise.nil).2 z]
  simp
theorem ss_uniq : ∀ a b : List ByteArray, SS a → SS b → (∀ z, z ∈ a ↔ z ∈ b) → a = b
  | [], [], _, _, _ => rfl
  | [], y :: t, _, _, h => absurd ((h y).2 List.mem_cons_self) List.not_mem_nil
  | x :: s, [], _, _, h => absurd ((h x).1 List.mem_cons_self) List.not_mem_nil
  | x :: s, y :: t, ha, hb, h => by
    have ha' := List.pairwise_cons.1 ha
    have hb' := List.pairwise_cons.1 hb
    have hxy : x = y := by
      rcases List.mem_cons.1 ((h x).1 List.mem_cons_self) with e | hx
      · exact e
      · rcases List.mem_cons.1 ((h y).2 List.mem_cons_self) with e | hy
        · exact e.symm
        · exact absurd (ha'.1 y hy) (ltB_asymm (hb'.1 x hx))
    subst hxy
    rw [ss_uniq s t ha'.2 hb'.2 (fun z => ?_)]
    have hz := h z
    rw [List.mem_cons, List.mem_cons] at hz
    constructor
    · intro hs
      rcases hz.1 (.inr hs) with e | ht
      · subst e; exact absurd (ha'.1 z hs) (ltB_irr z)
      · exact ht
    · intro ht
      rcases hz.2 (.inr ht) with e | hs
      · subst e; exact absurd (hb'.1 z ht) (ltB_irr z)
      · exact hs
theorem srt_ext {a b : List ByteArray} (h : ∀ z, z ∈ a ↔ z ∈ b) : srt a = srt b := ss_uniq _ _ (ss_srt a) (ss_srt b) (fun z => by rw [mem_srt, mem_srt, h z])
theorem srt_same {a : List ByteArray} (h : SS a) : srt a = a := ss_uniq _ _ (ss_srt a) h (mem_srt a)
theorem ss_nodup {a : List ByteArray} (h : SS a) : a.Nodup := h.imp (fun h => ltB_ne h)
theorem ins_len (x : ByteArray) : ∀ l, (ins x l).length ≤ l.length + 1
  | [] => by simp [ins]
  | y :: t => by
    unfold ins
    split
    · have := ins_len x t; simp; omega
    · split <;> simp
theorem srt_len (l : List ByteArray) : (srt l).length ≤ l.length := by
  have key : ∀ l acc : List ByteArray, (l.foldl (fun a x => ins x a) acc).length ≤ acc.length + l.length := by
    intro l
    induction l with
    | nil => intro acc; simp
    | cons x l ih => intro acc; have h1 := ih (ins x acc); have h2 := ins_len x acc; simp at h1 ⊢; omega
  have := key l []
  simpa [srt] using this
end Go.Proofs.Ytkldaghhfnpcjaa.Pl
