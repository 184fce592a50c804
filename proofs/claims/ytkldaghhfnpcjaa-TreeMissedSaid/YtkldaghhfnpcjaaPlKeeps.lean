/- What a write leaves, plainly. -/
import Derived.Test.YtkldaghhfnpcjaaPlTree
namespace Go.Proofs.Ytkldaghhfnpcjaa.Pl
open Go.RowKit Go.Proofs.YtkldaghhfnpcjaaW.PrintWords
theorem writeT_cases (S : TS) (a s : ByteArray) :
    (writeT S a s = (S, 2) ∧ isP a = false) ∨ (writeT S a s = (S, 3) ∧ isP a = true ∧ 4096 < s.size) ∨ (writeT S a s = (S, 8) ∧ isP a = true ∧ S.fs.length = 256 ∧ s.size ≤ 4096) ∨
    (writeT S a s = (S, 0) ∧ isP a = true ∧ fget S.fs a = some s ∧ s.size ≤ 4096) ∨ (writeT S a s = (⟨fput S.fs a s, S.cs ++ [a]⟩, 0) ∧ isP a = true ∧ fget S.fs a ≠ some s ∧ s.size ≤ 4096) := by
  unfold writeT
  by_cases hp : isP a = true
  · rw [if_pos hp]
    by_cases h1 : 4096 < s.size
    · rw [if_pos h1]; exact .inr (.inl ⟨rfl, hp, h1⟩)
    rw [if_neg h1]
    by_cases h2 : fget S.fs a = some s
    · rw [if_pos h2]; exact .inr (.inr (.inr (.inl ⟨rfl, hp, h2, by omega⟩)))
    rw [if_neg h2]
    by_cases h3 : fget S.fs a = none ∧ S.fs.length = 256
    · rw [if_pos h3]; exact .inr (.inr (.inl ⟨rfl, hp, h3.2, by omega⟩))
    rw [if_neg h3]
    exact .inr (.inr (.inr (.inr ⟨rfl, hp, h2, by omega⟩)))
  · rw [if_neg hp]; exact .inl ⟨rfl, by simpa using hp⟩
/-- what stands behind a write that was well -/
structure Wrote (S S' : TS) (a s : ByteArray) : Prop where
  read : readT S' a = (s, 0)
  again : writeT S' a s = (S', 0)
  other : ∀ q, q ≠ a → readT S' q = readT S q
  strike : (removeT S' a).2 = 0 ∧ (removeT S' a).1.cs.length = S'.cs.length + 1
  twice : (removeT (removeT S' a).1 a).2 = 4 ∧ (removeT (removeT S' a).1 a).1 = (removeT S' a).1
  gone : readT (removeT S' a).1 a = (⟨#[]⟩, 4)
theorem wrote_of {S S' : TS} {a s : ByteArray} (hr : FS S'.fs) (hp : isP a = true) (hs : s.size ≤ 4096) (hg : fget S'.fs a = some s) (ho : ∀ q, q ≠ a → fget S'.fs q = fget S.fs q) : Wrote S S' a s := by
  have h1 : readT S' a = (s, 0) := by unfold readT; rw [if_pos hp, hg]
  have h2 : removeT S' a = (⟨fdel S'.fs a, S'.cs ++ [a]⟩, 0) := by unfold removeT; rw [if_pos (by rw [h1])]
  have h3 : readT (removeT S' a).1 a = (⟨#[]⟩, 4) := by
    unfold readT; rw [if_pos hp, h2]
    show (match fget (fdel S'.fs a) a with | some s => (s, (0 : Int)) | none => (⟨#[]⟩, 4)) = _
    rw [fget_del hr, if_pos rfl]
  refine ⟨h1, ?_, fun q hq => ?_, ⟨by rw [h2], by rw [h2]; simp⟩, ?_, h3⟩
  · unfold writeT; rw [if_pos hp, if_neg (by omega), if_pos hg]
  · unfold readT; rw [ho q hq]
  · have h4 : removeT (removeT S' a).1 a = ((removeT S' a).1, 4) := by
      show (if (readT (removeT S' a).1 a).2 = 0 then ((⟨fdel (removeT S' a).1.fs a, (removeT S' a).1.cs ++ [a]⟩ : TS), (0 : Int)) else ((removeT S' a).1, (readT (removeT S' a).1 a).2)) = _
      rw [h3]
      rfl
    rw [h4]
    exact ⟨rfl, rfl⟩
theorem wrote_same {S : TS} {a s : ByteArray} (hS : TOk S) (hp : isP a = true) (hs : s.size ≤ 4096) (hg : fget S.fs a = some s) : Wrote S S a s := wrote_of hS.rise hp hs hg (fun _ _ => rfl)
theorem wrote_new {S : TS} {a s : ByteArray} (hS : TOk S) (hp : isP a = true) (hs : s.size ≤ 4096) : Wrote S ⟨fput S.fs a s, S.cs ++ [a]⟩ a s :=
  wrote_of (hS.rise.put a s) hp hs (by show fget (fput S.fs a s) a = _; rw [fget_put hS.rise, if_pos rfl]) (fun q hq => by show fget (fput S.fs a s) q = _; rw [fget_put hS.rise, if_neg hq])
theorem readT_key {S : TS} (hS : TOk S) {k : Nat} (hk : k < S.fs.length) : readT S (S.fs[k]'hk).1 = ((S.fs[k]'hk).2, 0) ∧ (S.fs[k]'hk).1.size ≤ 60 := by
  have hm := List.getElem_mem hk
  have hsh := hS.short _ hm
  refine ⟨?_, isP_size hsh.1⟩
  unfold readT
  rw [if_pos hsh.1, fget_of_mem hS.rise (p := (S.fs[k]'hk).1) (s := (S.fs[k]'hk).2) hm]
end Go.Proofs.Ytkldaghhfnpcjaa.Pl
