/- Rows of one name; rows cut. -/
import Derived.Test.YtmhbdgnajlnhnaaPlPure
import Derived.Lib.MinMax
namespace Go.Proofs.Ytmhbdgnajlnhnaa.P
open Go.RowKit Go.Proofs.YtmhbdgnajlnhnaaW.PrintWords Go.Proofs.Ytmhbdgnajlnhnaa.Pl
set_option linter.unusedVariables false
set_option linter.unusedSimpArgs false
theorem one_C (w : World) (a : ByteArray) : Kd.string.C (w.alloc (.cells #[.string a] 9)) (some ⟨w.heap.size, 0, none⟩) [a].length [a] := by
  have h1 := World.ownsRow_lit (base := 0) (e := 9) (size := 1) w #[.string a] 1 (Nat.zero_le _) (by simp [maxLen]) (by simp)
  have h2 : Kd.R Kd.string 9 (w.alloc (.cells #[.string a] 9)) 0 (fun _ => True) (.slice (some ⟨w.heap.size, 0, none⟩) 1 1) [a] := Kd.R_of_own (by simpa using h1 : (w.alloc (.cells #[.string a] 9)).ownsRow 0 9 1 (.slice (some ⟨w.heap.size, 0, none⟩) 1 1) 1 [Value.string a]) (fun _ _ => trivial)
  exact (Kd.R_reads' h2).2.2
theorem cutS (A : Option Addr) (c : Nat) (L : List ByteArray) (k : Nat) (hk : k ≤ L.length) (hc : L.length ≤ c) :
    (∃ A' : Option Addr, (∀ W : World, (Instr.slice 23 (.slice A L.length c) (some (.int .i64 (k : Int))) none none).run Try.prog W = .ok (.slice A' (L.length - k) (c - k)) W) ∧ ∀ W : World, Kd.C Kd.string W A L.length L → Kd.C Kd.string W A' (L.drop k).length (L.drop k)) ∧
    (∀ W : World, (Instr.slice 23 (.slice A L.length c) none (some (.int .i64 (k : Int))) none).run Try.prog W = .ok (.slice A k c) W) := by
  obtain ⟨i0, hi0, hzz⟩ := Option.map_eq_some_iff.1 info9
  simp only [Prod.mk.injEq] at hzz
  have hel : Try.prog.elem 23 = 9 := by simp [Program.elem, Try.underlying23]
  have hu : Try.prog.underlying 23 = some (.slice (Try.prog.elem 23)) := by rw [hel]; exact Try.underlying23
  refine ⟨⟨if c = k then A else A.map (·.add (k * 1)), fun W => ?_, fun W h => ?_⟩, fun W => ?_⟩
  · rw [run_slice_l W 23 A L.length c hu .i64 (k : Int) (Int.natCast_nonneg _) (by omega), hel]
    simp [sizeOf, typeInfo, hi0, hzz.2.1, sliced, Result.andThen]
  · exact Kd.C_drop h hk hc
  · have ha : (A.map fun x => x.add 0) = A := by cases A <;> simp [Addr.add]
    rw [run_slice_h W 23 A L.length c hu .i64 (k : Int) (Int.natCast_nonneg _) (by omega), hel]
    simp [sizeOf, typeInfo, hi0, hzz.2.1, sliced, Result.andThen, ha]
end Go.Proofs.Ytmhbdgnajlnhnaa.P
