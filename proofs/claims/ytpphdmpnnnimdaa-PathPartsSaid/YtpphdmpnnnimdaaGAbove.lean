/- path.Above's closure as an iterator: the parents of a path come, the nearest one first. -/
import Derived.RangeFuncNested
import Derived.RangeFuncBound
import Derived.RangeFuncCalls
import Derived.RangeFuncLeaves
import Derived.Shelf.Abstract
import Derived.Shelf.RegionOpen
import Derived.WalkKit
import Derived.OwnWalkIn
import Derived.TacticsInMore
import Derived.LoopNIn
import Derived.LoopIn
import Derived.Test.YtpphdmpnnnimdaaGW
import Derived.Test.YtpphdmpnnnimdaaPx0
import Derived.Test.YtpphdmpnnnimdaaPxf17
namespace Go.Proofs.Ytpphdmpnnnimdaa.P
open Go.RowKit Go.Shelf Go.Proofs.YtpphdmpnnnimdaaW.PrintWords Go.Proofs.YtpphdmpnnnimdaaW.PrintLast Go.Proofs.YtpphdmpnnnimdaaW.PrintMore
set_option linter.unusedVariables false
attribute [local go_sem] Oper.semAt_some

/-- The parents of a path. -/
inductive Ups : ByteArray → List ByteArray → Prop
  | nil {s q} (h : ∃ k, path_Parent.f k s = some (q, false)) : Ups s []
  | cons {s q r} (h : ∃ k, path_Parent.f k s = some (q, true)) (hlt : q.size < s.size) (t : Ups q r) : Ups s (q :: r)

/-- What is still to come. -/
def UpsAt (up ok : Value) (rest : List ByteArray) : Prop :=
  (rest = [] ∧ ok = .bool false ∧ ∃ q, up = .string q) ∨ ∃ x r, rest = x :: r ∧ ok = .bool true ∧ up = .string x ∧ Ups x r
def upLeft : Value → Value → Nat
  | .string x, .bool true => x.size + 1
  | _, _ => 0
theorem Ups.parent {s : ByteArray} {xs : List ByteArray} (h : Ups s xs) : ∃ k q b, path_Parent.f k s = some (q, b) ∧ UpsAt (.string q) (.bool b) xs ∧ upLeft (.string q) (.bool b) ≤ s.size := by
  cases h with
  | nil h => obtain ⟨k, hk⟩ := h; exact ⟨k, _, _, hk, .inl ⟨rfl, rfl, _, rfl⟩, Nat.zero_le _⟩
  | cons h hlt t => obtain ⟨k, hk⟩ := h; exact ⟨k, _, _, hk, .inr ⟨_, _, rfl, rfl, rfl, t⟩, hlt⟩

theorem grownBy_drewN (W : World) (n : Nat) : W.grownBy (W.drewN n) none := ⟨rfl, rfl, rfl, Nat.le_refl _, fun _ _ _ => rfl⟩

set_option maxRecDepth 100000 in
set_option maxHeartbeats 2000000 in
theorem above1_in (n : Nat) (l Bn : Nat) (s : ByteArray) (xs : List ByteArray) (hc : Ups s xs) (Kp : World → World → Prop) (J Jx : List ByteArray → World → Prop)
    (hY : ∀ pre x W, J pre W → pre.length < xs.length → YieldAt Fence.wide (n - 1) Try.prog l #[.string x] W fun e W' =>
      (e = .returned (.bool true) ∧ J (pre ++ [x]) W' ∧ Kp W W') ∨ (e = .returned (.bool false) ∧ Jx (pre ++ [x]) W'))
    (W : World) (hJ : AbidesFrom W.heap.size J) (hBn : W.cell? ⟨Bn, 0, none⟩ = some (.string s)) (h0 : J [] W) :
    CallsIn Fence.wide n Try.prog 34 #[.func (.yield l) #[] #[], .pointer (some ⟨Bn, 0, none⟩)] W fun e W' => (∃ v, e = .returned v) ∧
      ((∃ ys, ys = xs ∧ J ys W') ∨ (∃ pre, pre <+: xs ∧ Jx pre W')) := by
  obtain ⟨k, q, b, hk, hat, hlf⟩ := hc.parent
  refine callsIn_of_wp Try.func34 rfl trivial ?_ rfl
  simp only [Try.ntmps34, List.size_toArray, List.length_cons, List.length_nil, Nat.reduceAdd, Nat.reduceSub, Array.replicate_succ, Array.replicate_zero, List.push_toArray, List.append_toArray, List.nil_append, List.cons_append]
  gi_wp2_with (refine ⟨trivial, fun h => (by cases h), ?_⟩; refine (callsIn_wide.2 (path_Parent.calls k _ _ _ _ hk)).mono ?_; rintro e w1 ⟨rfl, ⟨nd, rfl⟩⟩)
  gi_loopw [3, 4] (fun up ok wr => ∃ pre rest, xs = pre ++ rest ∧ UpsAt up ok rest ∧ J pre wr) (fun up ok wr => upLeft up ok)
  case atStart => exact ⟨[], xs, rfl, hat, hJ _ _ _ none h0 (grownBy_drewN W nd) (fun r e => by cases e)⟩
  case round =>
    obtain ⟨pre, rest, hx, hu, hJs⟩ := hrel
    rcases hu with ⟨rfl, rfl, q2, rfl⟩ | ⟨x, r, rfl, rfl, rfl, ht⟩
    · gi_wp2
      go_end0
      exact ⟨⟨_, rfl⟩, .inl ⟨pre, by simp [hx], hJs⟩⟩
    · obtain ⟨fn, tmps, assign, body, hy, hR⟩ := hY pre x wr hJs (by rw [hx]; simp)
      obtain ⟨k2, q2, b2, hk2, hat2, hlf2⟩ := ht.parent
      gi_wp2
      refine ⟨fun h => (by cases h), ?_⟩
      refine hR.mono ?_
      rintro e W3 (⟨rfl, hJ3, hk3⟩ | ⟨rfl, hJx3⟩)
      · gi_wp2_with (refine ⟨trivial, fun h => (by cases h), ?_⟩; refine (callsIn_wide.2 (path_Parent.calls k2 _ _ _ _ hk2)).mono ?_; rintro e w1 ⟨rfl, ⟨nd2, rfl⟩⟩)
        go_roundw
        case rel => exact ⟨pre ++ [x], r, by simp [hx], hat2, hJ _ _ _ none hJ3 (grownBy_drewN W3 nd2) (fun r e => by cases e)⟩
        case measure => exact Nat.lt_succ_of_le hlf2
      · gi_wp2
        refine bodyPost_ret (results_none rfl _ _ _) rfl ?_
        exact ⟨⟨_, rfl⟩, .inr ⟨pre ++ [x], ⟨r, by simp [hx]⟩, hJx3⟩⟩

theorem above_stops (n : Nat) (Bn : Nat) (s : ByteArray) (xs : List ByteArray) (hc : Ups s xs) (Kp : World → World → Prop) (w : World) (hBn : Bn < w.heap.size) (h : w.cell? ⟨Bn, 0, none⟩ = some (.string s)) :
    SeqStopsK Fence.wide n Try.prog 34 #[.pointer (some ⟨Bn, 0, none⟩)] (fun x : ByteArray => #[Value.string x]) Kp (fun ys => ys = xs) (fun pre => pre <+: xs) xs.length w := fun l J Jx W hW hJ _ hY h0 =>
  above1_in n l Bn s xs hc Kp J Jx hY W hJ ((hW.cell (p := ⟨Bn, 0, none⟩) hBn).trans h) h0
end Go.Proofs.Ytpphdmpnnnimdaa.P
