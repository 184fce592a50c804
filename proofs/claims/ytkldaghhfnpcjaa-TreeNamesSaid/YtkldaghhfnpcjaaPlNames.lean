/- A full tree, plainly: 256 files that rise. -/
import Derived.Test.YtkldaghhfnpcjaaPlTree
namespace Go.Proofs.Ytkldaghhfnpcjaa.Pl
open Go.RowKit Go.Proofs.YtkldaghhfnpcjaaW.PrintWords
theorem fput_last : ∀ (l : Fs) (p s : ByteArray), (∀ x ∈ l, ltB x.1 p) → fput l p s = l ++ [(p, s)]
  | [], p, s, _ => rfl
  | x :: t, p, s, h => by
    rw [fput, if_pos (h x List.mem_cons_self), fput_last t p s (fun y hy => h y (List.mem_cons_of_mem _ hy))]
    rfl
def nm (i : Nat) : ByteArray := ⟨#[102, UInt8.ofNat (48 + i / 100), UInt8.ofNat (48 + i / 10 % 10), UInt8.ofNat (48 + i % 10)]⟩
def fullS (i : Nat) : TS := ⟨(List.range i).map (fun j => (nm j, (⟨#[]⟩ : ByteArray))), (List.range i).map nm⟩
theorem nm_isP : ∀ i < 256, isP (nm i) = true := by decide +kernel
instance (x y : ByteArray) : Decidable (ltB x y) := inferInstanceAs (Decidable (L x < L y))
theorem nm_step : ∀ i < 255, ltB (nm i) (nm (i + 1)) := by decide +kernel
theorem nm_lt {i j : Nat} (h : i < j) (hj : j < 256) : ltB (nm i) (nm j) := by
  induction j with
  | zero => omega
  | succ j ih =>
    by_cases e : i = j
    · subst e; exact nm_step i (by omega)
    · exact ltB_tr (ih (by omega) (by omega)) (nm_step j (by omega))
theorem nm_inj {i j : Nat} (hi : i < 256) (hj : j < 256) (h : nm i = nm j) : i = j := by
  rcases Nat.lt_trichotomy i j with h1 | h1 | h1
  · exact absurd h (ltB_ne (nm_lt h1 hj))
  · exact h1
  · exact absurd h.symm (ltB_ne (nm_lt h1 hi))
theorem full_below {i : Nat} (hi : i < 256) : ∀ x ∈ (fullS i).fs, ltB x.1 (nm i) := by
  intro x hx
  obtain ⟨j, hj, rfl⟩ := List.mem_map.1 hx
  exact nm_lt (List.mem_range.1 hj) hi
theorem full_succ (i : Nat) : fullS (i + 1) = ⟨(fullS i).fs ++ [(nm i, (⟨#[]⟩ : ByteArray))], (fullS i).cs ++ [nm i]⟩ := by
  unfold fullS
  rw [List.range_succ, List.map_append, List.map_append]
  rfl
theorem full_len (i : Nat) : (fullS i).fs.length = i ∧ (fullS i).cs.length = i := by simp [fullS]
theorem full_round {i : Nat} (hi : i < 256) : writeT (fullS i) (nm i) ⟨#[]⟩ = (fullS (i + 1), 0) := by
  have hg : fget (fullS i).fs (nm i) = none := fget_none (fun x hx => ltB_ne (full_below hi x hx))
  unfold writeT
  rw [if_pos (nm_isP i hi), if_neg (by decide), if_neg (by rw [hg]; simp), if_neg (by rw [(full_len i).1]; omega), fput_last _ _ _ (full_below hi), full_succ]
theorem full_FS : ∀ i, i ≤ 256 → FS (fullS i).fs
  | 0, _ => List.Pairwise.nil
  | i + 1, h => by
    rw [full_succ]
    refine List.pairwise_append.2 ⟨full_FS i (by omega), List.pairwise_singleton _ _, fun x hx y hy => ?_⟩
    rw [List.mem_singleton.1 hy]
    exact full_below (by omega) x hx
theorem full_get {i : Nat} (hi : i < 256) : fget (fullS 256).fs (nm i) = some ⟨#[]⟩ :=
  fget_of_mem (full_FS 256 (Nat.le_refl _)) (List.mem_map.2 ⟨i, List.mem_range.2 hi, rfl⟩)
def gB : ByteArray := ⟨#[103]⟩
theorem full_g : fget (fullS 256).fs gB = none := by
  refine fget_none (fun x hx => ?_)
  obtain ⟨j, _, rfl⟩ := List.mem_map.1 hx
  intro e
  have := congrArg ByteArray.size e
  cases this
theorem full_N1 : writeT (fullS 256) gB ⟨#[]⟩ = (fullS 256, 8) := by
  unfold writeT
  rw [if_pos (by decide +kernel), if_neg (by decide), if_neg (by rw [full_g]; simp), if_pos ⟨full_g, (full_len 256).1⟩]
def xB : ByteArray := ⟨#[120]⟩
def S1 : TS := ⟨fput (fullS 256).fs (nm 0) xB, (fullS 256).cs ++ [nm 0]⟩
theorem full_N2 : writeT (fullS 256) (nm 0) xB = (S1, 0) := by
  unfold writeT
  rw [if_pos (nm_isP 0 (by decide)), if_neg (by decide), if_neg (by rw [full_get (by decide)]; decide), if_neg (by rw [full_get (by decide)]; intro h; cases h.1)]
  rfl
theorem S1_len : S1.fs.length = 256 ∧ S1.cs.length = 257 := by
  refine ⟨?_, ?_⟩
  · show (fput (fullS 256).fs (nm 0) xB).length = 256
    rw [fput_old (full_FS 256 (Nat.le_refl _)) _ _ (full_get (by decide)), (full_len 256).1]
  · show ((fullS 256).cs ++ [nm 0]).length = 257
    rw [List.length_append, (full_len 256).2]
    rfl
theorem S1_since : (sinceT S1 225).2 = true ∧ (sinceT S1 225).1.length = 32 := by
  unfold sinceT
  rw [if_pos (by rw [S1_len.2]; omega)]
  refine ⟨rfl, ?_⟩
  decide +kernel
theorem S1_since2 : sinceT S1 224 = ([], false) := by unfold sinceT; rw [if_neg (by rw [S1_len.2]; omega)]
theorem S1_since3 : sinceT S1 257 = ([], true) := by
  unfold sinceT
  rw [if_pos (by rw [S1_len.2]; omega), List.drop_eq_nil_of_le (by rw [S1_len.2]; decide)]
  rfl
theorem S1_since4 : sinceT S1 258 = ([], false) := by unfold sinceT; rw [if_neg (by rw [S1_len.2]; omega)]
theorem S1_FS : FS S1.fs := by
  show FS (fput (fullS 256).fs (nm 0) xB)
  exact (full_FS 256 (Nat.le_refl _)).put _ _
theorem S1_get {q : ByteArray} (h : q ≠ nm 0) : fget S1.fs q = fget (fullS 256).fs q := by
  show fget (fput (fullS 256).fs (nm 0) xB) q = _
  rw [fget_put (full_FS 256 (Nat.le_refl _)), if_neg h]
def S2 (F : ByteArray) : TS := ⟨fput S1.fs (nm 1) F, S1.cs ++ [nm 1]⟩
section
variable {F G : ByteArray}
theorem full_N3 (hF : F.size = 4096) : writeT S1 (nm 1) F = (S2 F, 0) := by
  have h1 : fget S1.fs (nm 1) = some ⟨#[]⟩ := by rw [S1_get (by decide), full_get (by decide)]
  unfold writeT
  rw [if_pos (nm_isP 1 (by decide)), if_neg (by omega), if_neg (by rw [h1]; intro e; rw [← Option.some.inj e] at hF; cases hF), if_neg (by rw [h1]; intro h; cases h.1)]
  rfl
theorem full_N4 (hG : G.size = 4097) (S : TS) : writeT S (nm 1) G = (S, 3) ∧ writeT S ⟨#[70]⟩ G = (S, 2) ∧ writeT S gB G = (S, 3) := by
  refine ⟨?_, ?_, ?_⟩
  · unfold writeT; rw [if_pos (nm_isP 1 (by decide)), if_pos (by omega)]
  · unfold writeT; rw [if_neg (by decide +kernel)]
  · unfold writeT; rw [if_pos (by decide +kernel), if_pos (by omega)]
theorem S2_FS : FS (S2 F).fs := by
  show FS (fput S1.fs (nm 1) F)
  exact S1_FS.put _ _
theorem S2_get {q : ByteArray} (h : q ≠ nm 1) : fget (S2 F).fs q = fget S1.fs q := by
  show fget (fput S1.fs (nm 1) F) q = _
  rw [fget_put S1_FS, if_neg h]
theorem S2_len : (S2 F).fs.length = 256 ∧ (S2 F).cs.length = 258 := by
  refine ⟨?_, ?_⟩
  · show (fput S1.fs (nm 1) F).length = 256
    rw [fput_old S1_FS _ _ (show fget S1.fs (nm 1) = some ⟨#[]⟩ by rw [S1_get (by decide), full_get (by decide)]), S1_len.1]
  · show (S1.cs ++ [nm 1]).length = 258
    rw [List.length_append, S1_len.2]
    rfl
def S3 (F : ByteArray) : TS := ⟨fdel (S2 F).fs (nm 2), (S2 F).cs ++ [nm 2]⟩
theorem full_N5 : removeT (S2 F) (nm 2) = (S3 F, 0) := by
  have h1 : fget (S2 F).fs (nm 2) = some ⟨#[]⟩ := by rw [S2_get (by decide), S1_get (by decide), full_get (by decide)]
  have h2 : readT (S2 F) (nm 2) = (⟨#[]⟩, 0) := by unfold readT; rw [if_pos (nm_isP 2 (by decide)), h1]
  unfold removeT
  rw [h2, if_pos rfl]
  rfl
theorem S3_len : (S3 F).fs.length = 255 ∧ (S3 F).cs.length = 259 := by
  refine ⟨?_, ?_⟩
  · have := fdel_len (l := (S2 F).fs) (nm 2) (show fget (S2 F).fs (nm 2) = some ⟨#[]⟩ by rw [S2_get (by decide), S1_get (by decide), full_get (by decide)])
    rw [S2_len.1] at this
    show (fdel (S2 F).fs (nm 2)).length = 255
    omega
  · show ((S2 F).cs ++ [nm 2]).length = 259
    rw [List.length_append, S2_len.2]
    rfl
theorem full_N6 : (writeT (S3 F) gB ⟨#[]⟩).2 = 0 := by
  have h1 : fget (S3 F).fs gB = none := by
    show fget (fdel (S2 F).fs (nm 2)) gB = none
    rw [fget_del S2_FS, if_neg (by decide), S2_get (by decide), S1_get (by decide), full_g]
  unfold writeT
  rw [if_pos (by decide +kernel), if_neg (by decide), if_neg (by rw [h1]; simp), if_neg (by rw [S3_len.1]; omega)]
end
end Go.Proofs.Ytkldaghhfnpcjaa.Pl
