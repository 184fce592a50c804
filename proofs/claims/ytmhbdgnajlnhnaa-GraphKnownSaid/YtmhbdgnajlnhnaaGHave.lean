/- Folded: GWaysB, GHave. -/
import Derived.Test.YtmhbdgnajlnhnaaPlPure
import Derived.Lib.MinMax
import Derived.Test.YtmhbdgnajlnhnaaPxf27
/- Rows of one name; rows cut. -/
namespace Go.Proofs.Ytmhbdgnajlnhnaa.P
open Go.RowKit Go.Proofs.YtmhbdgnajlnhnaaW.PrintWords Go.Proofs.Ytmhbdgnajlnhnaa.Pl
set_option linter.unusedVariables false
set_option linter.unusedSimpArgs false
theorem one_C (w : World) (a : ByteArray) : Kd.string.C (w.alloc (.cells #[.string a] 9)) (some ⟨w.heap.size, 0, none⟩) [a].length [a] := by
  have h1 := World.ownsRow_lit (base := 0) (e := 9) (size := 1) w #[.string a] 1 (Nat.zero_le _) (by simp [maxLen]) (by simp)
  have h2 : Kd.R Kd.string 9 (w.alloc (.cells #[.string a] 9)) 0 (fun _ => True) (.slice (some ⟨w.heap.size, 0, none⟩) 1 1) [a] := Kd.R_of_own (by simpa using h1 : (w.alloc (.cells #[.string a] 9)).ownsRow 0 9 1 (.slice (some ⟨w.heap.size, 0, none⟩) 1 1) 1 [Value.string a]) (fun _ _ => trivial)
  exact (Kd.R_reads' h2).2.2
theorem cutS (A : Option Addr) (c : Nat) (L : List ByteArray) (k : Nat) (hk : k ≤ L.length) (hc : L.length ≤ c) :
    (∃ A' : Option Addr, (∀ W : World, (Instr.slice 23 (.slice A L.length c) (some (.int .i64 (k : Int))) none none).run Try.prog W = .ok (.slice A' (L.length - k) (c - k)) W) ∧ ∀ W : World, Kd.C Kd.string W A L.length L → Kd.C Kd.string W A' (L.drop k).length (L.drop k)) ∧
    (∀ W : World, (Instr.slice 23 (.slice A L.length c) none (some (.int .i64 (k : Int))) none).run Try.prog W = .ok (.slice A k c) W) := by
  obtain ⟨i0, hi0, hzz⟩ := Option.map_eq_some_iff.1 info9
  simp only [Prod.mk.injEq] at hzz
  have hel : Try.prog.elem 23 = 9 := by simp [Program.elem, Try.underlying23]
  have hu : Try.prog.underlying 23 = some (.slice (Try.prog.elem 23)) := by rw [hel]; exact Try.underlying23
  refine ⟨⟨if c = k then A else A.map (·.add (k * 1)), fun W => ?_, fun W h => ?_⟩, fun W => ?_⟩
  · rw [run_slice_l W 23 A L.length c hu .i64 (k : Int) (Int.natCast_nonneg _) (by omega), hel]
    simp [sizeOf, typeInfo, hi0, hzz.2.1, sliced, Result.andThen]
  · exact Kd.C_drop h hk hc
  · have ha : (A.map fun x => x.add 0) = A := by cases A <;> simp [Addr.add]
    rw [run_slice_h W 23 A L.length c hu .i64 (k : Int) (Int.natCast_nonneg _) (by omega), hel]
    simp [sizeOf, typeInfo, hi0, hzz.2.1, sliced, Result.andThen, ha]
end Go.Proofs.Ytmhbdgnajlnhnaa.P
/- slices.Contains of names. -/
namespace Go.Proofs.Ytmhbdgnajlnhnaa.Pl
open Go.RowKit Go.Proofs.YtmhbdgnajlnhnaaW.PrintWords Go.Proofs.Ytmhbdgnajlnhnaa.P
set_option linter.unusedVariables false
set_option linter.unusedSimpArgs false
theorem index_l0 (l : List ByteArray) (a : ByteArray) (hl : l.length ≤ 1000000000) : ∀ d i : Nat, i + d = l.length → ∃ r : Int, Ev (fun k => slices_Index_string_string.l0 k l a (l.length : Int) (i : Int)) r ∧ (0 ≤ r ↔ a ∈ l.drop i) := by
  intro d
  induction d with
  | zero =>
    intro i hi
    refine ⟨-1, ev_succ ?_, ?_⟩
    · simp only [slices_Index_string_string.l0]
      exact ev_ite_neg (by omega) (ev_const rfl)
    · rw [List.drop_eq_nil_of_le (by omega)]
      exact ⟨fun h => absurd h (by decide), fun h => (by cases h)⟩
  | succ d ih =>
    intro i hi
    have hlt : i < l.length := by omega
    have hd : l.drop i = l[i] :: l.drop (i + 1) := List.drop_eq_getElem_cons hlt
    by_cases e : a = l[i]
    · refine ⟨(i : Int), ev_succ ?_, ⟨fun _ => by rw [hd, e]; exact List.mem_cons_self .., fun _ => by omega⟩⟩
      simp only [slices_Index_string_string.l0, get_rd hlt]
      exact ev_ite_pos (by omega) (ev_ite_pos (by omega) (ev_ite_pos (by omega) (ev_ite_pos (by rw [e]) (ev_const rfl))))
    · obtain ⟨r, hr, hm⟩ := ih (i + 1) (by omega)
      refine ⟨r, ev_succ ?_, hm.trans ?_⟩
      · simp only [slices_Index_string_string.l0, get_rd hlt, w64n (n := i) (by omega)]
        exact ev_ite_pos (by omega) (ev_ite_pos (by omega) (ev_ite_pos (by omega) (ev_ite_neg (fun h => e (toList_eq.1 h)) hr)))
      · rw [hd, List.mem_cons]
        exact ⟨.inr, fun h => h.resolve_left e⟩
open Classical in
theorem contains_ev (l : List ByteArray) (a : ByteArray) (hl : l.length ≤ 1000000000) : Ev (fun k => slices_Contains_string_string.f k l a) (hasB l a) := by
  obtain ⟨r, hr, hm⟩ := index_l0 l a hl l.length 0 (Nat.zero_add _)
  unfold slices_Contains_string_string.f
  refine ev_bind (show Ev (fun k => slices_Index_string_string.f k l a) r from hr) (ev_const ?_)
  rw [List.drop_zero] at hm
  congr 1
  rw [Bool.eq_iff_iff, decide_eq_true_eq, hasB_iff]
  exact hm
end Go.Proofs.Ytmhbdgnajlnhnaa.Pl
namespace Go.Proofs.Ytmhbdgnajlnhnaa.P
open Go.RowKit Go.Proofs.YtmhbdgnajlnhnaaW.PrintWords Go.Proofs.Ytmhbdgnajlnhnaa.Pl
theorem contains_calls {w : World} (A : Option Addr) (c : Nat) (l : List ByteArray) (a : ByteArray) (h : Kd.C Kd.string w A l.length l) (hc : l.length ≤ c) (hl : l.length ≤ 1000000000) :
    Calls Try.prog 23 #[.slice A l.length c, .string a] w fun e w' => e = .returned (.bool (hasB l a)) ∧ Drawn0 w w' := by
  obtain ⟨k, hk⟩ := ev_some (contains_ev l a hl)
  exact slices_Contains_string_string.calls k A c l a _ w h hc hk
end Go.Proofs.Ytmhbdgnajlnhnaa.P
