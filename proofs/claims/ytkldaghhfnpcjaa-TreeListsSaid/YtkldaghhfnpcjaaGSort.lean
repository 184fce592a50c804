/- slices.Sort, slices.Compact at rows of texts of the call's own. -/
import Derived.Test.YtkldaghhfnpcjaaGW
import Derived.Test.YtkldaghhfnpcjaaShelf
import Derived.Test.YtkldaghhfnpcjaaPlTree
import Derived.Sort.OwnSorted
import Derived.Lib.OwnBridge
namespace Go.Proofs.Ytkldaghhfnpcjaa.P
open Go.RowKit Go.Proofs.YtkldaghhfnpcjaaW.PrintWords Go.Proofs.YtkldaghhfnpcjaaW.PrintLast Go.Proofs.YtkldaghhfnpcjaaW.PrintMore Go.Proofs.Ytkldaghhfnpcjaa.Pl
set_option linter.unusedVariables false
theorem encs_str (l : List ByteArray) : encs Value.string l = (l.map L).map Go.Proofs.encStr := by
  unfold encs
  rw [List.map_map]
  exact List.map_congr_left (fun s _ => by show Value.string s = Value.string ⟨(L s).toArray⟩; rw [show (⟨(L s).toArray⟩ : ByteArray) = s from B_L s])
/-- the row is sorted -/
def Sorted (w : World) (base : Nat) (ok : Nat → Prop) (v : Value) (l : List ByteArray) (w' : World) : Prop := Kd.R Kd.string 9 w' base ok v l ∧ w.grownBy w' v.ownBlock
theorem grown_refl (w : World) (row : Option Nat) : w.grownBy w row := ⟨rfl, rfl, rfl, Nat.le_refl _, fun _ _ _ => rfl⟩
theorem sort_calls {w : World} {base : Nat} {ok : Nat → Prop} {v : Value} {l : List ByteArray} (h : Kd.R Kd.string 9 w base ok v l) (hl : l.length < 1000000000) :
    Calls Try.prog 29 #[v] w fun e w' => e = .returned (.tuple #[]) ∧ Sorted w base ok v (msrt l) w' := by
  have ho := Kd.own_of_R h
  rw [encs_str] at ho
  rcases ho.2 with ⟨rfl, h0⟩ | ⟨g, cap, cur, rfl, hbase, hb, h1, h2, h3, h4⟩
  · have hnil := List.eq_nil_of_length_eq_zero h0
    subst hnil
    refine (Try.slices_Sort_string_none none 0 w).mono ?_
    rintro e w' ⟨rfl, rfl⟩
    exact ⟨rfl, by rw [show msrt [] = [] by simp [msrt]]; exact h, grown_refl _ _⟩
  · have hH := holds_of_block (ss := l.map L) hb (by rw [List.length_map]; rw [Nat.mul_one] at h4; exact h4)
    have hc := Try.slices_Sort_string g 0 cap (l.map L) w hH (Array.getElem?_eq_some_iff.1 hb).1 (by rw [List.length_map]; omega)
    rw [List.length_map] at hc
    refine hc.mono ?_
    rintro e w' ⟨rfl, n, os, rfl⟩
    refine ⟨rfl, ?_, grownBy_sorted _⟩
    have hl2 : ((l.map L).mergeSort leL).length = (l.map L).length := List.length_mergeSort _
    have ho2 := ownsRow_sorted (n := n) (os := os) (ss := l.map L) (ts := (l.map L).mergeSort leL) hl2 hbase hb (by rw [List.length_map]; exact h1) h2 h3
    have hr : List.map Go.Proofs.encStr ((l.map L).mergeSort leL) = encs Value.string (msrt l) := by rw [encs_str, msrt_L]
    rw [hr, List.length_map] at ho2
    exact Kd.R_of_own (by rw [msrt_len]; exact ho2) (fun k hk => h.1 k (by first | (rw [← hk]; done) | (rw [← hk]; rfl)))
/-- twins struck out of what was sorted -/
def Compacted (w : World) (base : Nat) (ok : Nat → Prop) (v : Value) (l : List ByteArray) (e : Ending) (w' : World) : Prop := ∃ v', e = .returned v' ∧ Kd.R Kd.string 9 w' base ok v' l ∧ w.grownBy w' v.ownBlock
theorem compact_calls {w : World} {base : Nat} {ok : Nat → Prop} {v : Value} {l : List ByteArray} (h : Kd.R Kd.string 9 w base ok v (msrt l)) (hl : l.length < 1000000000) :
    Calls Try.prog 50 #[v] w (Compacted w base ok v (srt l)) := by
  have ho := Kd.own_of_R h
  rw [encs_str, msrt_L] at ho
  rcases ho.2 with ⟨rfl, h0⟩ | ⟨g, cap, cur, rfl, hbase, hb, h1, h2, h3, h4⟩
  · rw [msrt_len] at h0
    have hnil := List.eq_nil_of_length_eq_zero h0
    subst hnil
    refine (Try.slices_Compact_string_empty none 0 w).mono ?_
    rintro e w' ⟨rfl, rfl⟩
    exact ⟨_, rfl, Kd.R_nil _ _ _ _ _, grown_refl _ _⟩
  · obtain ⟨zs, hzs⟩ : ∃ zs, (l.map L).mergeSort leL = zs := ⟨_, rfl⟩
    have hzl : zs.length = (msrt l).length := by rw [← hzs, List.length_mergeSort, List.length_map, msrt_len]
    rw [hzs] at ho h4
    have hH := holds_of_block (ss := zs) hb (by rw [Nat.mul_one] at h4; rw [hzl]; exact h4)
    have hm := msrt_len l
    have hc := Try.slices_Compact_string g 0 cap zs w hH (by omega) (by omega)
    rw [hzl] at hc
    refine hc.mono ?_
    rintro e w' ⟨rfl, q, rfl⟩
    have hcs := compact_srt l
    rw [hzs] at hcs
    have hcl : (Lib.compact zs).length = (srt l).length := by rw [← hcs, List.length_map]
    have hle := srt_len l
    have ho2 := Lib.ownsRow_putRow (q := q) (k := (Lib.compact zs).length) (ys := Lib.compact zs ++ List.replicate (zs.length - (Lib.compact zs).length) []) ho (by rw [List.length_append, List.length_replicate]; omega) (by omega)
    rw [List.take_left] at ho2
    have hr : List.map Go.Proofs.encStr (Lib.compact zs) = encs Value.string (srt l) := by
      rw [encs_str, ← hcs]
      congr 1
      rw [List.map_map, show L ∘ B = id by funext x; exact L_B x, List.map_id]
    rw [hr, hcl] at ho2
    rw [hcl]
    rw [hzl] at ho2
    refine ⟨_, rfl, Kd.R_of_own ho2 (fun k hk => h.1 k (by first | (rw [← hk]; done) | (rw [← hk]; rfl))), ⟨rfl, rfl, rfl, by simp [Go.Sort.putRow, Go.Sort.mapBlock, Go.Sort.ahead], fun k hk hne => ?_⟩⟩
    have : g ≠ k := fun e => hne (by rw [e]; rfl)
    simp [Go.Sort.putRow, Go.Sort.mapBlock, Go.Sort.ahead, Array.getElem?_modify, this]
end Go.Proofs.Ytkldaghhfnpcjaa.P
