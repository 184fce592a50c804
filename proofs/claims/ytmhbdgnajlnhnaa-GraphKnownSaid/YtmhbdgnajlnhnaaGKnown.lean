/- Rows of literals for GraphKnown; a graph that is not there. -/
import Derived.Test.YtmhbdgnajlnhnaaGLawBase
import Derived.Test.YtmhbdgnajlnhnaaPlKnown
import Derived.Deep.RegionHeld3
import Derived.WalkMore
namespace Go.Proofs.Ytmhbdgnajlnhnaa.P
open Go.RowKit Go.Maps Go.MapKept Go.ChangeMaps Go.Proofs.YtmhbdgnajlnhnaaW.PrintWords Go.Proofs.YtmhbdgnajlnhnaaW.PrintLast Go.Proofs.YtmhbdgnajlnhnaaW.PrintMore Go.Proofs.Ytmhbdgnajlnhnaa.Pl
set_option linter.unusedVariables false
set_option linter.unusedSimpArgs false

def RowIs (T : List ByteArray) (n : Nat) (w : World) (e : Ending) (w' : World) : Prop := ∃ A c, e = .returned (.slice A n c) ∧ n ≤ c ∧ Kd.C Kd.string w' A T.length T ∧ Below w.heap.size w w'
def TupIs (T : List ByteArray) (n : Nat) (b : Bool) (w : World) (e : Ending) (w' : World) : Prop := ∃ A c, e = .returned (.tuple #[.slice A n c, .bool b]) ∧ n ≤ c ∧ Kd.C Kd.string w' A T.length T ∧ Below w.heap.size w w'
theorem row_is {f : Nat} {args : Array Value} {w : World} {T T' : List ByteArray} {n : Nat} (h : Calls Try.prog f args w (Rose w T')) (e : T' = T) (hn : T.length = n) : Calls Try.prog f args w (RowIs T n w) := by
  subst e hn
  refine h.mono ?_
  rintro e w' ⟨v, rfl, hR, _, hB⟩
  obtain ⟨A, c, rfl, hc, hC⟩ := Kd.R_reads hR
  exact ⟨A, c, rfl, hc, hC, hB⟩
theorem way_is {G : GG} {w : World} {base p : Nat} {role : Nat → Role} (hg : GMem w base role p G) (a b : ByteArray) (ha : a.size ≤ maxLen) (hb : b.size ≤ maxLen) {T : List ByteArray} {t : Bool} (e : wayG G a b = (T, t)) {n : Nat} (hn : T.length = n) :
    Calls Try.prog 14 #[.pointer (some ⟨p, 0, none⟩), .string a, .string b] w (TupIs T n t w) := by
  subst hn
  have h := way_callsG hg a b ha hb
  rw [e] at h
  refine h.mono ?_
  rintro e w' ⟨v, rfl, hR, _, hB⟩
  obtain ⟨A, c, rfl, hc, hC⟩ := Kd.R_reads hR
  exact ⟨A, c, rfl, hc, hC, hB⟩
theorem order_is {G : GG} {w : World} {base p : Nat} {role : Nat → Role} (hg : GMem w base role p G) {T : List ByteArray} {t : Bool} (e : orderG G = (T, t)) {n : Nat} (hn : T.length = n) :
    Calls Try.prog 32 #[.pointer (some ⟨p, 0, none⟩)] w (TupIs T n t w) := by
  subst hn
  have h := order_calls hg
  unfold OrderIs at h
  rw [e] at h
  refine h.mono ?_
  rintro e w' ⟨v, rfl, hR, hB⟩
  obtain ⟨A, c, rfl, hc, hC⟩ := Kd.R_reads hR
  exact ⟨A, c, rfl, hc, hC, hB⟩
theorem cycle_is {G : GG} {w : World} {base p : Nat} {role : Nat → Role} (hg : GMem w base role p G) {c : Option (List ByteArray)} (e : cycleG G = c) {T : List ByteArray} {t : Bool} (h1 : c.getD [] = T) (h2 : c.isSome = t) {n : Nat} (hn : T.length = n) :
    Calls Try.prog 34 #[.pointer (some ⟨p, 0, none⟩)] w (TupIs T n t w) := by
  subst hn
  have h := cycle_calls hg
  unfold CycleIs at h
  rw [e, h1, h2] at h
  refine h.mono ?_
  rintro e w' ⟨v, rfl, hR, hB⟩
  obtain ⟨A, c, rfl, hc, hC⟩ := Kd.R_reads hR
  exact ⟨A, c, rfl, hc, hC, hB⟩
theorem lit_below (w : World) (l : List ByteArray) : Below w.heap.size w (w.alloc (.cells (l.map Value.string).toArray 9)) := below_alloc (Below.refl _ w) _
theorem lit_equal {w : World} {A : Option Addr} {n c : Nat} {l : List ByteArray} (h : Kd.C Kd.string w A l.length l) (hc : n ≤ c) (hn : l.length = n) (hl : n ≤ 100) :
    Calls Try.prog 16 #[.slice A n c, .slice (some ⟨w.heap.size, 0, none⟩) n n] (w.alloc (.cells (l.map Value.string).toArray 9)) fun e w' => e = .returned (.bool true) ∧ Below w.heap.size w w' := by
  subst hn
  refine (equalS_calls A c (some ⟨w.heap.size, 0, none⟩) l.length l (Kd.C_below h (lit_below w l)) hc (lit_C w l hl) (Nat.le_refl _) (by omega)).mono ?_
  rintro e w' ⟨rfl, ⟨n, rfl⟩⟩
  exact ⟨rfl, pw_below_drewN (lit_below w l) n⟩
theorem lit_row {w : World} {f : Nat} {a : Value} {l T T' : List ByteArray} {n m : Nat} (h : Calls Try.prog f #[a, .slice (some ⟨w.heap.size, 0, none⟩) l.length l.length] (w.alloc (.cells (l.map Value.string).toArray 9)) (Rose (w.alloc (.cells (l.map Value.string).toArray 9)) T')) (e : T' = T) (hn : T.length = n) (hm : l.length = m) :
    Calls Try.prog f #[a, .slice (some ⟨w.heap.size, 0, none⟩) m m] (w.alloc (.cells (l.map Value.string).toArray 9)) (RowIs T n w) := by
  subst e hn hm
  refine h.mono ?_
  rintro e w' ⟨v, rfl, hR, _, hB⟩
  obtain ⟨A, c, rfl, hc, hC⟩ := Kd.R_reads hR
  exact ⟨A, c, rfl, hc, hC, (lit_below w l).trans (hB.mono (lit_below w l).size)⟩

set_option maxRecDepth 1000000 in
set_option maxHeartbeats 4000000 in
theorem has_nil (w : World) (a : ByteArray) : Calls Try.prog 29 #[.pointer none, .string a] w fun e w' => e = .returned (.bool false) ∧ w' = w := by
  go_enter Try.func29, Try.ntmps29
  go_wp2_with fail
  go_ret
  exact ⟨rfl, rfl⟩
set_option maxRecDepth 1000000 in
set_option maxHeartbeats 4000000 in
theorem names_nil (w : World) : Calls Try.prog 22 #[.pointer none] w fun e w' => e = .returned (.slice none 0 0) ∧ w' = w := by
  go_enter Try.func22, Try.ntmps22
  go_wp2_with fail
  go_ret
  exact ⟨rfl, rfl⟩
set_option maxRecDepth 1000000 in
set_option maxHeartbeats 4000000 in
theorem out_nil (w : World) (a : ByteArray) : Calls Try.prog 24 #[.pointer none, .string a] w fun e w' => e = .returned (.slice none 0 0) ∧ w' = w := by
  go_enter Try.func24, Try.ntmps24
  go_wp2_with fail
  go_ret
  exact ⟨rfl, rfl⟩
set_option maxRecDepth 1000000 in
set_option maxHeartbeats 4000000 in
theorem in_nil (w : World) (a : ByteArray) : Calls Try.prog 31 #[.pointer none, .string a] w fun e w' => e = .returned (.slice none 0 0) ∧ w' = w := by
  go_enter Try.func31, Try.ntmps31
  go_wp2_with fail
  go_ret
  exact ⟨rfl, rfl⟩
set_option maxRecDepth 1000000 in
set_option maxHeartbeats 4000000 in
theorem below_nil (w : World) (A : Option Addr) (n c : Nat) : Calls Try.prog 17 #[.pointer none, .slice A n c] w fun e w' => e = .returned (.slice none 0 0) ∧ w' = w := by
  go_enter Try.func17, Try.ntmps17
  go_wp2_with fail
  go_ret
  exact ⟨rfl, rfl⟩
set_option maxRecDepth 1000000 in
set_option maxHeartbeats 4000000 in
theorem above_nil (w : World) (A : Option Addr) (n c : Nat) : Calls Try.prog 20 #[.pointer none, .slice A n c] w fun e w' => e = .returned (.slice none 0 0) ∧ w' = w := by
  go_enter Try.func20, Try.ntmps20
  go_wp2_with fail
  go_ret
  exact ⟨rfl, rfl⟩
set_option maxRecDepth 1000000 in
set_option maxHeartbeats 4000000 in
theorem add_nil (w : World) (A : Option Addr) (n c : Nat) : Calls Try.prog 39 #[.pointer none, .slice A n c] w fun e w' => e = .returned (.int .i64 1) ∧ w' = w := by
  go_enter Try.func39, Try.ntmps39
  go_wp2_with fail
  go_ret
  exact ⟨rfl, rfl⟩
set_option maxRecDepth 1000000 in
set_option maxHeartbeats 4000000 in
theorem turn_nil (w : World) : Calls Try.prog 26 #[.pointer none] w fun e w' => e = .returned (.pointer none) ∧ w' = w := by
  go_enter Try.func26, Try.ntmps26
  go_wp2_with fail
  go_ret
  exact ⟨rfl, rfl⟩
set_option maxRecDepth 1000000 in
set_option maxHeartbeats 4000000 in
theorem way_nil (w : World) (a b : ByteArray) : Calls Try.prog 14 #[.pointer none, .string a, .string b] w fun e w' => e = .returned (.tuple #[.slice none 0 0, .bool false]) ∧ w' = w := by
  have q1 := has_nil w a
  go_enter Try.func14, Try.ntmps14
  go_wp2_with fail
  go_step3
  go_wp2_with fail
  refine q1.mono ?_
  rintro e w1 ⟨rfl, hw⟩
  subst hw
  clear q1
  go_wp2_with fail
  rw [Exit.noGoto_ret]
  first | go_ret2 | (refine bodyPost_ret (results_tmp2 rfl _ _ _) rfl ?_)
  exact ⟨rfl, rfl⟩
set_option maxRecDepth 1000000 in
set_option maxHeartbeats 4000000 in
theorem link_nil (w : World) (a b : ByteArray) : Calls Try.prog 25 #[.pointer none, .string a, .string b] w fun e w' => e = .returned (.int .i64 1) ∧ Below w.heap.size w w' := by
  have q1 := fun (W : World) (A : Option Addr) => add_nil W A 2 2
  go_enter Try.func25, Try.ntmps25
  go_wp2_with fail
  refine (q1 _ _).mono ?_
  rintro e w1 ⟨rfl, rfl⟩
  clear q1
  go_wp2_with fail
  go_ret
  exact ⟨rfl, below_alloc (Below.refl _ w) _⟩
set_option maxRecDepth 1000000 in
set_option maxHeartbeats 4000000 in
theorem edges_nil (w : World) : Calls Try.prog 28 #[.pointer none] w fun e w' => e = .returned (.slice none 0 0) ∧ w' = w := by
  have q1 := names_nil w
  go_enter Try.func28, Try.ntmps28
  go_wp2_with fail
  refine q1.mono ?_
  rintro e w1 ⟨rfl, rfl⟩
  clear q1
  obtain ⟨wn, rfl⟩ : ∃ wn : World, wn = w1 := ⟨_, rfl⟩
  go_wp2_with fail
  go_loopg [3, 11] 1 (fun n v3 v11 wr => v3 = .slice none 0 0 ∧ v11 = .int .i64 0 ∧ wr = wn)
  case atStart => exact ⟨rfl, rfl, rfl⟩
  case round =>
    obtain ⟨rfl, rfl, rfl⟩ := hrel
    go_wp2_with fail
    go_ret
    exact ⟨rfl, rfl⟩
theorem same_below {f : Nat} {args : Array Value} {w : World} {x : Value} (h : Calls Try.prog f args w fun e w' => e = .returned x ∧ w' = w) : Calls Try.prog f args w fun e w' => e = .returned x ∧ Below w.heap.size w w' := by
  refine h.mono ?_
  rintro e w' ⟨rfl, rfl⟩
  exact ⟨rfl, Below.refl _ _⟩
theorem lit_same {f : Nat} {args : Array Value} {w : World} {x : Value} {l : List ByteArray} (h : Calls Try.prog f args (w.alloc (.cells (l.map Value.string).toArray 9)) fun e w' => e = .returned x ∧ w' = w.alloc (.cells (l.map Value.string).toArray 9)) : Calls Try.prog f args (w.alloc (.cells (l.map Value.string).toArray 9)) fun e w' => e = .returned x ∧ Below w.heap.size w w' := by
  refine h.mono ?_
  rintro e w' ⟨rfl, rfl⟩
  exact ⟨rfl, lit_below w l⟩
end Go.Proofs.Ytmhbdgnajlnhnaa.P
