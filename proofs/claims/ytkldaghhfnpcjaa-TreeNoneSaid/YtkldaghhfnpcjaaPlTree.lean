/- Trees of files, plainly: files rising by path, all changes there were. -/
import Derived.Test.YtkldaghhfnpcjaaPlSort
import Derived.Test.YtkldaghhfnpcjaaPlPath
namespace Go.Proofs.Ytkldaghhfnpcjaa.Pl
open Go.RowKit Go.Proofs.YtkldaghhfnpcjaaW.PrintWords

abbrev Fs := List (ByteArray × ByteArray)
/-- rising by path -/
def FS (l : Fs) : Prop := l.Pairwise (fun a b => ltB a.1 b.1)
def fget : Fs → ByteArray → Option ByteArray
  | [], _ => none
  | x :: t, p => if x.1 = p then some x.2 else fget t p
def fput : Fs → ByteArray → ByteArray → Fs
  | [], p, s => [(p, s)]
  | x :: t, p, s => if ltB x.1 p then x :: fput t p s else if x.1 = p then (p, s) :: t else (p, s) :: x :: t
def fdel : Fs → ByteArray → Fs
  | [], _ => []
  | x :: t, p => if x.1 = p then t else x :: fdel t p
/-- where a path stands, or would stand -/
def fat : Fs → ByteArray → Nat
  | [], _ => 0
  | x :: t, p => if ltB x.1 p then fat t p + 1 else 0
theorem FS.tail {x : ByteArray × ByteArray} {t : Fs} (h : FS (x :: t)) : FS t := (List.pairwise_cons.1 h).2
theorem FS.head {x : ByteArray × ByteArray} {t : Fs} (h : FS (x :: t)) : ∀ y ∈ t, ltB x.1 y.1 := (List.pairwise_cons.1 h).1
theorem fget_none {l : Fs} {p : ByteArray} (h : ∀ x ∈ l, x.1 ≠ p) : fget l p = none := by
  induction l with
  | nil => rfl
  | cons x t ih => rw [fget, if_neg (h x List.mem_cons_self)]; exact ih (fun y hy => h y (List.mem_cons_of_mem _ hy))
theorem fget_mem {l : Fs} {p s : ByteArray} (h : fget l p = some s) : (p, s) ∈ l := by
  induction l with
  | nil => cases h
  | cons x t ih =>
    rw [fget] at h
    split at h
    · rename_i e
      have := Option.some.inj h
      rw [← e, ← this]
      exact List.mem_cons_self
    · exact List.mem_cons_of_mem _ (ih h)
theorem fget_of_mem {l : Fs} (hl : FS l) {p s : ByteArray} (h : (p, s) ∈ l) : fget l p = some s := by
  induction l with
  | nil => cases h
  | cons x t ih =>
    rcases List.mem_cons.1 h with rfl | h
    · rw [fget, if_pos rfl]
    · rw [fget, if_neg (fun e => ltB_irr p (by have := hl.head _ h; rw [e] at this; exact this))]
      exact ih hl.tail h
theorem fget_iff {l : Fs} (hl : FS l) {p s : ByteArray} : fget l p = some s ↔ (p, s) ∈ l := ⟨fget_mem, fget_of_mem hl⟩
theorem fget_some_iff {l : Fs} {p : ByteArray} : (fget l p).isSome = true ↔ p ∈ l.map (·.1) := by
  induction l with
  | nil => simp [fget]
  | cons x t ih =>
    rw [fget]
    split
    · rename_i e; simp [e]
    · rename_i e
      rw [ih, List.map_cons, List.mem_cons]
      constructor
      · exact fun h => .inr h
      · rintro (h | h)
        · exact absurd h.symm e
        · exact h
theorem fput_mem (p s : ByteArray) (y : ByteArray × ByteArray) : ∀ l : Fs, y ∈ fput l p s → y = (p, s) ∨ y ∈ l
  | [], h => by simp [fput] at h; exact .inl h
  | x :: t, h => by
    rw [fput] at h
    split at h
    · rcases List.mem_cons.1 h with rfl | h
      · exact .inr List.mem_cons_self
      · rcases fput_mem p s y t h with h | h
        · exact .inl h
        · exact .inr (List.mem_cons_of_mem _ h)
    · split at h
      · rcases List.mem_cons.1 h with rfl | h
        · exact .inl rfl
        · exact .inr (List.mem_cons_of_mem _ h)
      · rcases List.mem_cons.1 h with rfl | h
        · exact .inl rfl
        · exact .inr h
theorem FS.put {l : Fs} (h : FS l) (p s : ByteArray) : FS (fput l p s) := by
  induction l with
  | nil => simp [fput, FS]
  | cons x t ih =>
    rw [fput]
    split
    · rename_i hlt
      refine List.pairwise_cons.2 ⟨fun y hy => ?_, ih h.tail⟩
      rcases fput_mem p s y t hy with rfl | hy
      · exact hlt
      · exact h.head y hy
    · rename_i hlt
      split
      · rename_i e
        refine List.pairwise_cons.2 ⟨fun y hy => ?_, h.tail⟩
        show ltB p y.1
        rw [← e]; exact h.head y hy
      · rename_i e
        have hp : ltB p x.1 := ltB_or hlt e
        refine List.pairwise_cons.2 ⟨fun y hy => ?_, h⟩
        rcases List.mem_cons.1 hy with rfl | hy
        · exact hp
        · exact ltB_tr hp (h.head y hy)
theorem fget_put {l : Fs} (h : FS l) (p s q : ByteArray) : fget (fput l p s) q = if q = p then some s else fget l q := by
  induction l with
  | nil =>
    rw [fput, fget, fget]
    by_cases e : q = p
    · rw [if_pos e, if_pos e.symm]
    · rw [if_neg e, if_neg (fun e' => e e'.symm)]
      rfl
  | cons x t ih =>
    rw [fput]
    split
    · rename_i hlt
      rw [fget, fget, ih h.tail]
      by_cases e : x.1 = q
      · rw [if_pos e, if_pos e, if_neg (fun e' => ltB_ne hlt (by rw [e, e']))]
      · rw [if_neg e, if_neg e]
    · split
      · rename_i e0
        rw [fget, fget]
        by_cases e : q = p
        · rw [if_pos e.symm, if_pos e]
        · rw [if_neg (fun e' => e e'.symm), if_neg e, if_neg (fun e' => e (by rw [← e', e0]))]
      · rw [fget]
        by_cases e : q = p
        · rw [if_pos e.symm, if_pos e]
        · rw [if_neg (fun e' => e e'.symm), if_neg e]
theorem fdel_mem (p : ByteArray) (y : ByteArray × ByteArray) : ∀ l : Fs, y ∈ fdel l p → y ∈ l
  | [], h => h
  | x :: t, h => by
    rw [fdel] at h
    split at h
    · exact List.mem_cons_of_mem _ h
    · rcases List.mem_cons.1 h with rfl | h
      · exact List.mem_cons_self
      · exact List.mem_cons_of_mem _ (fdel_mem p y t h)
theorem FS.del {l : Fs} (h : FS l) (p : ByteArray) : FS (fdel l p) := by
  induction l with
  | nil => exact h
  | cons x t ih =>
    rw [fdel]
    split
    · exact h.tail
    · exact List.pairwise_cons.2 ⟨fun y hy => h.head y (fdel_mem p y t hy), ih h.tail⟩
theorem fget_del {l : Fs} (h : FS l) (p q : ByteArray) : fget (fdel l p) q = if q = p then none else fget l q := by
  induction l with
  | nil => rw [fdel]; split <;> rfl
  | cons x t ih =>
    rw [fdel]
    split
    · rename_i e
      by_cases hq : q = p
      · rw [if_pos hq, hq]
        exact fget_none (fun y hy e' => ltB_irr p (by have := h.head y hy; rw [e, e'] at this; exact this))
      · rw [if_neg hq, fget, if_neg (fun e' => hq (by rw [← e', e]))]
    · rename_i e
      rw [fget, fget, ih h.tail]
      by_cases hq : x.1 = q
      · rw [if_pos hq, if_pos hq, if_neg (fun e' => e (by rw [hq, e']))]
      · rw [if_neg hq, if_neg hq]
theorem fput_new {l : Fs} (p s : ByteArray) (h : fget l p = none) : (fput l p s).length = l.length + 1 := by
  induction l with
  | nil => rfl
  | cons x t ih =>
    rw [fget] at h
    split at h
    · cases h
    · rename_i e
      rw [fput]
      split
      · simp [ih h]
      · first | (rw [if_neg e]; simp) | simp
theorem fput_old {l : Fs} (hl : FS l) (p s : ByteArray) {u : ByteArray} (h : fget l p = some u) : (fput l p s).length = l.length := by
  induction l with
  | nil => cases h
  | cons x t ih =>
    rw [fget] at h
    rw [fput]
    split
    · rename_i hlt
      rw [if_neg (ltB_ne hlt)] at h
      simp [ih hl.tail h]
    · split
      · simp
      · rename_i hlt e
        rw [if_neg e] at h
        exfalso
        obtain ⟨y, hy, e2⟩ := List.mem_map.1 (fget_some_iff.1 (show (fget t p).isSome = true by rw [h]; rfl))
        exact hlt (by rw [← e2]; exact hl.head y hy)
theorem fdel_len {l : Fs} (p : ByteArray) {u : ByteArray} (h : fget l p = some u) : (fdel l p).length + 1 = l.length := by
  induction l with
  | nil => cases h
  | cons x t ih =>
    rw [fget] at h
    rw [fdel]
    split
    · simp
    · rename_i e
      rw [if_neg e] at h
      simp [ih h]
theorem fat_le (l : Fs) (p : ByteArray) : fat l p ≤ l.length := by
  induction l with
  | nil => simp [fat]
  | cons x t ih => rw [fat]; split <;> simp <;> omega
theorem fat_lt {l : Fs} {p : ByteArray} : ∀ j (h : j < fat l p) (h' : j < l.length), ltB l[j].1 p := by
  induction l with
  | nil => intro j h; simp [fat] at h
  | cons x t ih =>
    intro j h h'
    rw [fat] at h
    split at h
    · rename_i hlt
      cases j with
      | zero => exact hlt
      | succ j => exact ih j (by omega) (by simp at h'; omega)
    · omega
theorem fat_not {l : Fs} {p : ByteArray} (h' : fat l p < l.length) : ¬ ltB (l[fat l p]'h').1 p := by
  induction l with
  | nil => simp at h'
  | cons x t ih =>
    by_cases hlt : ltB x.1 p
    · have e : fat (x :: t) p = fat t p + 1 := by rw [fat, if_pos hlt]
      have h2 : fat t p < t.length := by rw [e] at h'; simp at h'; omega
      have := ih h2
      simp only [e, List.getElem_cons_succ]
      exact this
    · have e : fat (x :: t) p = 0 := by rw [fat, if_neg hlt]
      simp only [e, List.getElem_cons_zero]
      exact hlt
/-- is it there? -/
theorem fget_fat {l : Fs} (hl : FS l) (p : ByteArray) : fget l p = if h : fat l p < l.length then (if (l[fat l p]'h).1 = p then some (l[fat l p]'h).2 else none) else none := by
  induction l with
  | nil => simp [fget]
  | cons x t ih =>
    by_cases hlt : ltB x.1 p
    · have e : fat (x :: t) p = fat t p + 1 := by rw [fat, if_pos hlt]
      rw [fget, if_neg (ltB_ne hlt), ih hl.tail]
      by_cases h2 : fat t p < t.length
      · have h3 : fat (x :: t) p < (x :: t).length := by rw [e]; simp; omega
        rw [dif_pos h2, dif_pos h3]
        simp only [e, List.getElem_cons_succ]
      · have h3 : ¬ fat (x :: t) p < (x :: t).length := by rw [e]; simp; omega
        rw [dif_neg h2, dif_neg h3]
    · have e : fat (x :: t) p = 0 := by rw [fat, if_neg hlt]
      have h3 : fat (x :: t) p < (x :: t).length := by rw [e]; simp
      rw [dif_pos h3]
      simp only [e, List.getElem_cons_zero]
      rw [fget]
      split
      · rfl
      · rename_i hne
        refine fget_none (fun y hy e' => ?_)
        have h4 := hl.head y hy
        rw [e'] at h4
        exact hlt h4
theorem fput_fat {l : Fs} (p s : ByteArray) : fput l p s = l.take (fat l p) ++ (p, s) :: l.drop (if h : fat l p < l.length then (if (l[fat l p]'h).1 = p then fat l p + 1 else fat l p) else fat l p) := by
  induction l with
  | nil => simp [fput, fat]
  | cons x t ih =>
    by_cases hlt : ltB x.1 p
    · have e : fat (x :: t) p = fat t p + 1 := by rw [fat, if_pos hlt]
      rw [fput, if_pos hlt, ih]
      by_cases h2 : fat t p < t.length
      · have h3 : fat (x :: t) p < (x :: t).length := by rw [e]; simp; omega
        rw [dif_pos h2, dif_pos h3]
        simp only [e, List.getElem_cons_succ, List.take_succ_cons, List.cons_append]
        split <;> simp
      · have h3 : ¬ fat (x :: t) p < (x :: t).length := by rw [e]; simp; omega
        rw [dif_neg h2, dif_neg h3]
        simp [e]
    · have e : fat (x :: t) p = 0 := by rw [fat, if_neg hlt]
      have h3 : fat (x :: t) p < (x :: t).length := by rw [e]; simp
      rw [dif_pos h3, fput, if_neg hlt]
      simp only [e, List.getElem_cons_zero, List.take_zero, List.nil_append]
      split <;> simp
theorem fdel_fat {l : Fs} (hl : FS l) (p : ByteArray) {u : ByteArray} (h : fget l p = some u) : fdel l p = l.take (fat l p) ++ l.drop (fat l p + 1) := by
  induction l with
  | nil => cases h
  | cons x t ih =>
    by_cases hlt : ltB x.1 p
    · have e : fat (x :: t) p = fat t p + 1 := by rw [fat, if_pos hlt]
      rw [fget, if_neg (ltB_ne hlt)] at h
      rw [fdel, if_neg (ltB_ne hlt), ih hl.tail h, e]
      simp
    · have e : fat (x :: t) p = 0 := by rw [fat, if_neg hlt]
      rw [e, fdel]
      rw [fget] at h
      split
      · simp
      · rename_i hne
        rw [if_neg hne] at h
        obtain ⟨y, hy, e2⟩ := List.mem_map.1 (fget_some_iff.1 (show (fget t p).isSome = true by rw [h]; rfl))
        exact absurd (by rw [← e2]; exact hl.head y hy) hlt
/-- a tree: its files, all its changes -/
structure TS where
  fs : Fs
  cs : List ByteArray
def isP (p : ByteArray) : Bool := isL (L p)
def readT (S : TS) (p : ByteArray) : ByteArray × Int :=
  if isP p = true then (match fget S.fs p with | some s => (s, 0) | none => (⟨#[]⟩, 4)) else (⟨#[]⟩, 2)
def writeT (S : TS) (p s : ByteArray) : TS × Int :=
  if isP p = true then
    (if 4096 < s.size then (S, 3) else
      if fget S.fs p = some s then (S, 0) else
      if fget S.fs p = none ∧ S.fs.length = 256 then (S, 8) else (⟨fput S.fs p s, S.cs ++ [p]⟩, 0))
  else (S, 2)
def removeT (S : TS) (p : ByteArray) : TS × Int :=
  if (readT S p).2 = 0 then (⟨fdel S.fs p, S.cs ++ [p]⟩, 0) else (S, (readT S p).2)
def startsB (p pre : ByteArray) : Bool := (L p).take (L pre).length == L pre
def listT (S : TS) (pre : ByteArray) : List ByteArray := (S.fs.map (·.1)).filter (startsB · pre)
def sinceT (S : TS) (mark : Int) : List ByteArray × Bool :=
  if 0 ≤ mark ∧ mark ≤ S.cs.length ∧ S.cs.length - mark ≤ 32 then (srt (S.cs.drop mark.toNat), true) else ([], false)
/-- a tree as it may be -/
structure TOk (S : TS) : Prop where
  rise : FS S.fs
  few : S.fs.length ≤ 256
  short : ∀ x ∈ S.fs, isP x.1 = true ∧ x.2.size ≤ 4096
  path : ∀ p ∈ S.cs, isP p = true
theorem isP_size {p : ByteArray} (h : isP p = true) : p.size ≤ 60 := by
  unfold isP isL at h
  rw [Bool.and_eq_true, decide_eq_true_iff, ← size_L] at h
  exact h.1
theorem TOk.empty : TOk ⟨[], []⟩ := ⟨List.Pairwise.nil, Nat.zero_le _, (fun x h => by cases h), (fun x h => by cases h)⟩
theorem TOk.write {S : TS} (h : TOk S) (p s : ByteArray) : TOk (writeT S p s).1 := by
  unfold writeT
  by_cases hp : isP p = true
  · rw [if_pos hp]
    by_cases hs : 4096 < s.size
    · rw [if_pos hs]; exact h
    rw [if_neg hs]
    by_cases h1 : fget S.fs p = some s
    · rw [if_pos h1]; exact h
    rw [if_neg h1]
    by_cases h2 : fget S.fs p = none ∧ S.fs.length = 256
    · rw [if_pos h2]; exact h
    rw [if_neg h2]
    refine ⟨h.rise.put p s, ?_, fun x hx => ?_, fun q hq => ?_⟩
    · show (fput S.fs p s).length ≤ 256
      have hf := h.few
      cases hg : fget S.fs p with
      | none => rw [fput_new p s hg]; have : S.fs.length ≠ 256 := fun e => h2 ⟨hg, e⟩; omega
      | some u => rw [fput_old h.rise p s hg]; exact hf
    · rcases fput_mem p s x S.fs hx with rfl | hx
      · exact ⟨hp, by show s.size ≤ 4096; omega⟩
      · exact h.short x hx
    · rcases List.mem_append.1 hq with hq | hq
      · exact h.path q hq
      · rw [List.mem_singleton.1 hq]; exact hp
  · rw [if_neg hp]; exact h
theorem readT_zero {S : TS} {p : ByteArray} : (readT S p).2 = 0 ↔ isP p = true ∧ ∃ s, fget S.fs p = some s ∧ (readT S p).1 = s := by
  unfold readT
  by_cases hp : isP p = true
  · rw [if_pos hp]
    cases fget S.fs p with
    | none => simp
    | some s => simp [hp]
  · rw [if_neg hp]; simp [hp]
theorem TOk.remove {S : TS} (h : TOk S) (p : ByteArray) : TOk (removeT S p).1 := by
  unfold removeT
  by_cases hr : (readT S p).2 = 0
  · rw [if_pos hr]
    obtain ⟨hp, s, hs, _⟩ := readT_zero.1 hr
    refine ⟨h.rise.del p, ?_, fun x hx => h.short x (fdel_mem p x S.fs hx), fun q hq => ?_⟩
    · show (fdel S.fs p).length ≤ 256
      have := fdel_len p hs
      have := h.few
      omega
    · rcases List.mem_append.1 hq with hq | hq
      · exact h.path q hq
      · rw [List.mem_singleton.1 hq]; exact hp
  · rw [if_neg hr]; exact h
end Go.Proofs.Ytkldaghhfnpcjaa.Pl
