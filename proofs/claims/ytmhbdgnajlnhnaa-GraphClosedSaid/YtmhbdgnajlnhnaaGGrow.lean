/- slices.Grow of nil; slices.Concat of two rows; both. -/
import Derived.Test.YtmhbdgnajlnhnaaGLawBase
import Derived.Test.YtmhbdgnajlnhnaaPlBel
import Derived.Lib.AppendZerosOnto
import Derived.Lib.SliceRun
import Derived.Lib.Walk
namespace Go.Proofs.Ytmhbdgnajlnhnaa.P
open Go.RowKit Go.Maps Go.MapKept Go.ChangeMaps Go.Proofs.YtmhbdgnajlnhnaaW.PrintWords Go.Proofs.YtmhbdgnajlnhnaaW.PrintLast Go.Proofs.YtmhbdgnajlnhnaaW.PrintMore Go.Proofs.Ytmhbdgnajlnhnaa.Pl
set_option linter.unusedVariables false
set_option linter.unusedSimpArgs false
theorem zeros_own {w : World} {n G : Nat} (hG : n ≤ G) (hm : G ≤ maxLen) :
    Kd.R Kd.string 9 (w.drew.alloc (.cells (([] : List Value).toArray ++ Builtin.zeroCells (Value.string ⟨#[]⟩).cells n ++ Builtin.zeroCells (Value.string ⟨#[]⟩).cells (G - n)) 9)) w.heap.size (fun _ => True) (.slice (some ⟨w.heap.size, 0, none⟩) 0 G) [] := by
  refine Kd.R_of_own ⟨rfl, .inr ⟨w.heap.size, G, _, rfl, Nat.le_refl _, World.alloc_heap_new w.drew _, Nat.zero_le _, hm, ?_, by simp [encs]⟩⟩ (fun _ _ => trivial)
  have h1 : (Value.string ⟨#[]⟩).cells.size = 1 := rfl
  simp [Builtin.zeroCells, h1, Kd.string]
  omega
set_option maxRecDepth 1000000 in
set_option maxHeartbeats 2000000 in
theorem grow_calls {w : World} (n : Nat) (hn : n ≤ 1000000) :
    Calls Try.prog 56 #[.slice none 0 0, .int .i64 (n : Int)] w fun e w' => ∃ v, e = .returned v ∧ Kd.R Kd.string 9 w' w.heap.size (fun _ => True) v [] ∧ Below w.heap.size w w' := by
  have h1 : ¬ ((n : Int) < 0) := by omega
  have hcap : ∀ (ty : TypeId) (W : World), (Builtin.cap_ #[23] ty #[.slice none 0 0]).run Try.prog W = .ok (.int .i64 0) W := fun ty W => by kernel_rfl
  by_cases h0 : n = 0
  · subst h0
    go_enter Try.func56, Try.ntmps56
    go_wp2_with fail
    go_ret
    exact ⟨_, rfl, Kd.R_nil _ _ _ _ _, Below.refl _ _⟩
  · obtain ⟨i0, hi0, hzz⟩ := Option.map_eq_some_iff.1 info9
    simp only [Prod.mk.injEq] at hzz
    have hp : (0 : Int) < (n : Int) := by omega
    have hpn : 0 < n := by omega
    have hrz : ∀ ty, (Builtin.append_ #[23, 3] ty #[.slice none 0 0, .int .i64 (n : Int)]).run Try.prog w =
        .ok (.slice (some ⟨w.heap.size, 0, none⟩) n (grownCap w n 0 9)) (w.drew.alloc (.cells (([] : List Value).toArray ++ Builtin.zeroCells (Value.string ⟨#[]⟩).cells n ++ Builtin.zeroCells (Value.string ⟨#[]⟩).cells (grownCap w n 0 9 - n)) 9)) := fun ty => by
      have h := Go.Lib.run_append_grow_zeros w 23 3 ty 9 i0 (.string ⟨#[]⟩) .i64 .i64 Try.underlying23 Try.underlying3 hi0 hzz.1 none 0 0 [] (run_firstCells_none w.drew i0.size 0 0 0) n (by omega) (by rw [hzz.2.1]; decide) (by omega) (by omega) (by rw [hzz.2.2]; omega) (by rw [Nat.zero_add, hzz.2.2]; exact growslice_fits (by omega) (by omega))
      rw [Nat.zero_add] at h
      exact h
    have hGn : n ≤ grownCap w n 0 9 := grownCap_ge w _ _ _
    have hGm := grownCap_le_maxLen w n 0 9 (by unfold maxLen; omega)
    obtain ⟨G, hG⟩ : ∃ G, G = grownCap w n 0 9 := ⟨_, rfl⟩
    rw [← hG] at hrz hGn hGm
    have HR := Aside0.mk (zeros_own (w := w) hGn hGm)
    have hB : Below w.heap.size w (w.drew.alloc (.cells (([] : List Value).toArray ++ Builtin.zeroCells (Value.string ⟨#[]⟩).cells n ++ Builtin.zeroCells (Value.string ⟨#[]⟩).cells (G - n)) 9)) := below_alloc (below_drew (Below.refl _ _)) _
    obtain ⟨w2, hw2⟩ : ∃ w2, (w.drew.alloc (.cells (([] : List Value).toArray ++ Builtin.zeroCells (Value.string ⟨#[]⟩).cells n ++ Builtin.zeroCells (Value.string ⟨#[]⟩).cells (G - n)) 9)) = w2 := ⟨_, rfl⟩
    rw [hw2] at hrz hB HR
    have hel : Try.prog.elem 23 = 9 := by simp [Program.elem, Try.underlying23]
    have hu : Try.prog.underlying 23 = some (.slice (Try.prog.elem 23)) := by rw [hel]; exact Try.underlying23
    have hsl : ∀ W : World, (Instr.slice 23 (.slice (some ⟨w.heap.size, 0, none⟩) n G) none (some (.int .i64 0)) none).run Try.prog W = .ok (.slice (some ⟨w.heap.size, 0, none⟩) 0 G) W := fun W => by
      rw [run_slice_h W 23 _ n G hu .i64 (0 : Int) (by omega) (by omega), hel]
      simp [sizeOf, typeInfo, hi0, hzz.2.1, sliced, Result.andThen, Addr.add]
    have hs0 : ∀ W : World, (Instr.slice 23 (.slice none 0 0) none (some (.int .i64 0)) none).run Try.prog W = .ok (.slice none 0 0) W := fun W => by kernel_rfl
    have hwr : IntKind.i64.wrap ((n : Int) - 0) = (n : Int) ∧ IntKind.i64.wrap (n : Int) = (n : Int) := by rw [IntKind.wrap_i64, IntKind.wrap_i64]; omega
    have HB := Aside0.mk hB
    clear hG hw2 hB hGn hGm hu hel hi0 hzz
    go_enter Try.func56, Try.ntmps56
    go_wp2_with (at_builtin; refine Go.Lib.wpList_append_run _ rfl _ _ _ _ rfl _ _ rfl rfl _ _ (hrz _) ?_)
    all_goals (go_ret; exact ⟨_, rfl, HR.out, HB.out⟩)
set_option maxRecDepth 1000000 in
set_option maxHeartbeats 4000000 in
theorem concat_calls {w : World} (g : Nat) (A2 : Option Addr) (c2 : Nat) (l2 : List ByteArray) (A3 : Option Addr) (c3 : Nat) (l3 : List ByteArray) (hg : w.heap[g]? = some (.cells #[.slice A2 l2.length c2, .slice A3 l3.length c3] 23 (0, 0))) (h2 : Kd.string.C w A2 l2.length l2) (h3 : Kd.string.C w A3 l3.length l3) (s2 : l2.length ≤ 100000) (s3 : l3.length ≤ 100000) :
    Calls Try.prog 40 #[.slice (some ⟨g, 0, none⟩) 2 2] w fun e w' => ∃ v, e = .returned v ∧ Kd.R Kd.string 9 w' w.heap.size (fun _ => True) v (l2 ++ l3) ∧ Below w.heap.size w w' := by
  have hgr := grow_calls (w := w) (l2.length + l3.length) (by omega)
  have HZ : Aside0 (∀ W, Below w.heap.size w W → (W.cell? ⟨g, 0, none⟩ = some (.slice A2 l2.length c2) ∧ W.cell? ⟨g, 1, none⟩ = some (.slice A3 l3.length c3)) ∧ Kd.string.C W A2 l2.length l2 ∧ Kd.string.C W A3 l3.length l3) := ⟨fun W hb => by
    have e := blk_below hg hb
    exact ⟨⟨by rw [blk_cell' e]; rfl, by rw [blk_cell' e]; rfl⟩, Kd.C_below h2 hb, Kd.C_below h3 hb⟩⟩
  have hw1 : IntKind.i64.wrap (0 + (l2.length : Int)) = (l2.length : Int) ∧ IntKind.i64.wrap (l2.length : Int) = (l2.length : Int) ∧ IntKind.i64.wrap ((l2.length : Int) + (l3.length : Int)) = (l2.length : Int) + (l3.length : Int) := by rw [IntKind.wrap_i64, IntKind.wrap_i64, IntKind.wrap_i64]; omega
  have hn1 : ¬ ((l2.length : Int) < 0) := by omega
  have hn2 : ¬ ((l2.length : Int) + (l3.length : Int) < 0) := by omega
  clear hg h2 h3
  go_enter Try.func40, Try.ntmps40
  go_wp2_with fail
  go_loopg [3, 11] 3 (fun n v3 v11 wr => wr = w ∧ ((n = 3 ∧ v11 = .int .i64 0 ∧ v3 = .int .i64 0) ∨ (n = 2 ∧ v11 = .int .i64 1 ∧ v3 = .int .i64 (l2.length : Int)) ∨ (n = 1 ∧ v11 = .int .i64 2 ∧ v3 = .int .i64 ((l2.length : Int) + (l3.length : Int)))))
  case atStart => exact ⟨rfl, .inl ⟨rfl, rfl, rfl⟩⟩
  case round =>
    obtain ⟨rfl, ⟨rfl, rfl, rfl⟩ | ⟨rfl, rfl, rfl⟩ | ⟨rfl, rfl, rfl⟩⟩ := hrel
    · obtain ⟨⟨z0, z1⟩, _, _⟩ := HZ.out _ (Below.refl _ _)
      go_wp2_with fail
      go_roundg 2
      case measure => omega
      case rel => exact ⟨rfl, .inr (.inl ⟨rfl, by first | rfl | simp, by first | rfl | simp⟩)⟩
    · obtain ⟨⟨z0, z1⟩, _, _⟩ := HZ.out _ (Below.refl _ _)
      go_wp2_with fail
      go_roundg 1
      case measure => omega
      case rel => exact ⟨rfl, .inr (.inr ⟨rfl, by first | rfl | simp, by first | rfl | simp⟩)⟩
    · have hgr2 := hgr
      rw [Int.natCast_add] at hgr2
      go_wp2_with fail
      refine hgr2.mono ?_
      rintro e w1 ⟨v1, rfl, hR1, hB1⟩
      clear hgr hgr2
      have H1 := Aside0.mk (And.intro hR1 hB1)
      clear hR1 hB1
      go_wp2_with fail
      obtain ⟨w, rfl⟩ : ∃ w : World, w = wr := ⟨_, rfl⟩
      go_loopg [6, 27] 3 (fun n v6 v27 wq => (n = 3 ∧ v27 = .int .i64 0 ∧ Aside0 (Kd.R Kd.string 9 wq w.heap.size (fun _ => True) v6 [] ∧ Below w.heap.size w wq)) ∨ (n = 2 ∧ v27 = .int .i64 1 ∧ Aside0 (Kd.R Kd.string 9 wq w.heap.size (fun _ => True) v6 l2 ∧ Below w.heap.size w wq)) ∨ (n = 1 ∧ v27 = .int .i64 2 ∧ Aside0 (Kd.R Kd.string 9 wq w.heap.size (fun _ => True) v6 (l2 ++ l3) ∧ Below w.heap.size w wq)))
      case atStart => exact .inl ⟨rfl, rfl, H1⟩
      case round =>
        clear H1
        obtain ⟨rfl, rfl, HR⟩ | ⟨rfl, rfl, HR⟩ | ⟨rfl, rfl, HR⟩ := hrel
        · have hR := HR.out.1
          have hB := HR.out.2
          have hle := hB.size
          obtain ⟨⟨z0, z1⟩, hCA, hCB⟩ := HZ.out wr hB
          have hCW := hCA
          clear HR
          go_wp2_with (first | ((with_reducible refine gate_builtin (b := .append) (xs := #[.tmp 31, .tmp 32]) rfl ?_); at_builtin; refine Kd.R_append_rows Kd.string (Rr := Kd.string.K _) (w0 := wr) w.heap.size rfl (.tmp 31) (.tmp 32) 23 9 (.string ⟨#[]⟩) 16 rfl Try.underlying23 info9 rfl (by decide) (by omega) _ [] l2 A2 l2.length c2 (fun _ => True) (fun _ => False) rfl rfl hR hCW (fun _ _ h => h) (fun _ h => h.elim) (fun _ _ => trivial) (Below.refl _ wr) hle (by first | omega | (simp; omega)) ?_; intro v1 w2 h2 hb2 hg2 hat; have H2 := Aside0.mk (And.intro h2 (hB.trans (hb2.mono (Nat.le_refl _)))); clear h2 hb2 hg2 hat))
          go_roundg 2
          case measure => omega
          case rel => exact .inr (.inl ⟨rfl, by first | rfl | simp, H2⟩)
        · have hR := HR.out.1
          have hB := HR.out.2
          have hle := hB.size
          obtain ⟨⟨z0, z1⟩, hCA, hCB⟩ := HZ.out wr hB
          have hCW := hCB
          clear HR
          go_wp2_with (first | ((with_reducible refine gate_builtin (b := .append) (xs := #[.tmp 31, .tmp 32]) rfl ?_); at_builtin; refine Kd.R_append_rows Kd.string (Rr := Kd.string.K _) (w0 := wr) w.heap.size rfl (.tmp 31) (.tmp 32) 23 9 (.string ⟨#[]⟩) 16 rfl Try.underlying23 info9 rfl (by decide) (by omega) _ l2 l3 A3 l3.length c3 (fun _ => True) (fun _ => False) rfl rfl hR hCW (fun _ _ h => h) (fun _ h => h.elim) (fun _ _ => trivial) (Below.refl _ wr) hle (by first | omega | (simp; omega)) ?_; intro v1 w2 h2 hb2 hg2 hat; have H2 := Aside0.mk (And.intro h2 (hB.trans (hb2.mono (Nat.le_refl _)))); clear h2 hb2 hg2 hat))
          go_roundg 1
          case measure => omega
          case rel => exact .inr (.inr ⟨rfl, by first | rfl | simp, H2⟩)
        · go_wp2_with fail
          go_ret
          exact ⟨_, rfl, HR.out⟩
end Go.Proofs.Ytmhbdgnajlnhnaa.P
