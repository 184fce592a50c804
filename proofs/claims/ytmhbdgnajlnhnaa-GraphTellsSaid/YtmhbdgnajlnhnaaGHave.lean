/- slices.Contains of names. -/
import Derived.Test.YtmhbdgnajlnhnaaPlPure
import Derived.Test.YtmhbdgnajlnhnaaPxf27
namespace Go.Proofs.Ytmhbdgnajlnhnaa.Pl
open Go.RowKit Go.Proofs.YtmhbdgnajlnhnaaW.PrintWords Go.Proofs.Ytmhbdgnajlnhnaa.P
set_option linter.unusedVariables false
set_option linter.unusedSimpArgs false
theorem index_l0 (l : List ByteArray) (a : ByteArray) (hl : l.length ≤ 1000000000) : ∀ d i : Nat, i + d = l.length → ∃ r : Int, Ev (fun k => slices_Index_string_string.l0 k l a (l.length : Int) (i : Int)) r ∧ (0 ≤ r ↔ a ∈ l.drop i) := by
  intro d
  induction d with
  | zero =>
    intro i hi
    refine ⟨-1, ev_succ ?_, ?_⟩
    · simp only [slices_Index_string_string.l0]
      exact ev_ite_neg (by omega) (ev_const rfl)
    · rw [List.drop_eq_nil_of_le (by omega)]
      exact ⟨fun h => absurd h (by decide), fun h => (by cases h)⟩
  | succ d ih =>
    intro i hi
    have hlt : i < l.length := by omega
    have hd : l.drop i = l[i] :: l.drop (i + 1) := List.drop_eq_getElem_cons hlt
    by_cases e : a = l[i]
    · refine ⟨(i : Int), ev_succ ?_, ⟨fun _ => by rw [hd, e]; exact List.mem_cons_self .., fun _ => by omega⟩⟩
      simp only [slices_Index_string_string.l0, get_rd hlt]
      exact ev_ite_pos (by omega) (ev_ite_pos (by omega) (ev_ite_pos (by omega) (ev_ite_pos (by rw [e]) (ev_const rfl))))
    · obtain ⟨r, hr, hm⟩ := ih (i + 1) (by omega)
      refine ⟨r, ev_succ ?_, hm.trans ?_⟩
      · simp only [slices_Index_string_string.l0, get_rd hlt, w64n (n := i) (by omega)]
        exact ev_ite_pos (by omega) (ev_ite_pos (by omega) (ev_ite_pos (by omega) (ev_ite_neg (fun h => e (toList_eq.1 h)) hr)))
      · rw [hd, List.mem_cons]
        exact ⟨.inr, fun h => h.resolve_left e⟩
open Classical in
theorem contains_ev (l : List ByteArray) (a : ByteArray) (hl : l.length ≤ 1000000000) : Ev (fun k => slices_Contains_string_string.f k l a) (hasB l a) := by
  obtain ⟨r, hr, hm⟩ := index_l0 l a hl l.length 0 (Nat.zero_add _)
  unfold slices_Contains_string_string.f
  refine ev_bind (show Ev (fun k => slices_Index_string_string.f k l a) r from hr) (ev_const ?_)
  rw [List.drop_zero] at hm
  congr 1
  rw [Bool.eq_iff_iff, decide_eq_true_eq, hasB_iff]
  exact hm
end Go.Proofs.Ytmhbdgnajlnhnaa.Pl
namespace Go.Proofs.Ytmhbdgnajlnhnaa.P
open Go.RowKit Go.Proofs.YtmhbdgnajlnhnaaW.PrintWords Go.Proofs.Ytmhbdgnajlnhnaa.Pl
theorem contains_calls {w : World} (A : Option Addr) (c : Nat) (l : List ByteArray) (a : ByteArray) (h : Kd.C Kd.string w A l.length l) (hc : l.length ≤ c) (hl : l.length ≤ 1000000000) :
    Calls Try.prog 23 #[.slice A l.length c, .string a] w fun e w' => e = .returned (.bool (hasB l a)) ∧ Drawn0 w w' := by
  obtain ⟨k, hk⟩ := ev_some (contains_ev l a hl)
  exact slices_Contains_string_string.calls k A c l a _ w h hc hk
end Go.Proofs.Ytmhbdgnajlnhnaa.P
