/- depfile.Parse: what memory holds between its steps, and the closure that ends a word. -/
import Derived.Test.YtahdgaaedilcmaaGRune
import Derived.Test.YtahdgaaedilcmaaGW
import Derived.Test.YtahdgaaedilcmaaPx0
import Derived.Test.YtahdgaaedilcmaaProg
namespace Go.Proofs.Ytahdgaaedilcmaa.P
open Go.RowKit Go.Proofs.YtahdgaaedilcmaaW.PrintWords Go.Proofs.YtahdgaaedilcmaaW.PrintLast Go.Proofs.YtahdgaaedilcmaaW.PrintMore
set_option linter.unusedVariables false
set_option linter.unusedSimpArgs false

/-- Behind B lie, in this order, the second result, the rule, the word, and three marks; the rules told and the rule's texts lie apart. -/
def PMem (w0 : World) (B : Nat) (vO : Value) (out : List S32) (rule : S32) (word : ByteArray) (inn tgt col : Bool) (w : World) : Prop :=
  Below B w0 w ∧ B + 6 ≤ w.heap.size ∧ w.heap[B]? = some (.cells #[.int .i64 0, .int .i64 0] 26 (0, 0)) ∧ w.heap[B + 2]? = some (.cells #[.string word] 9 (0, 0)) ∧
  w.heap[B + 3]? = some (.cells #[.bool inn] 4 (0, 0)) ∧ w.heap[B + 4]? = some (.cells #[.bool tgt] 4 (0, 0)) ∧ w.heap[B + 5]? = some (.cells #[.bool col] 4 (0, 0)) ∧
  ∃ vD okO okD, w.heap[B + 1]? = some (.cells #[.string rule.f0, vD] 32 (0, 0)) ∧ Kd.S k32 32 w (B + 6) okO vO out ∧ Kd.R Kd.string 9 w (B + 6) okD vD rule.f1 ∧
    (∀ k, okO k → B + 6 ≤ k ∧ k < w.heap.size ∧ ¬ okD k) ∧ (∀ k, okD k → B + 6 ≤ k ∧ k < w.heap.size)
section
variable {w0 : World} {B : Nat} {vO : Value} {out : List S32} {rule : S32} {word : ByteArray} {inn tgt col : Bool} {w : World}
theorem PMem.setWord (h : PMem w0 B vO out rule word inn tgt col w) (x : ByteArray) : PMem w0 B vO out rule x inn tgt col (w.setCell ⟨B + 2, 0, none⟩ (.string x)) := by
  obtain ⟨hb, hs, h0, h2, h3, h4, h5, vD, okO, okD, h1, hO, hD, hx, hy⟩ := h
  refine ⟨hb.setCell (p := ⟨B + 2, 0, none⟩) (by simp) _, by simpa using hs, blk_far h0 (by simp) _, blk_set h2 0 _, blk_far h3 (by simp) _, blk_far h4 (by simp) _, blk_far h5 (by simp) _, vD, okO, okD, blk_far h1 (by simp) _,
    Kd.S_far hO (fun k hk => by have := hx k hk; simp; omega) _, Kd.R_far hD (fun k hk => by have := hy k hk; simp; omega) _, by simpa using hx, by simpa using hy⟩
theorem PMem.setInn (h : PMem w0 B vO out rule word inn tgt col w) (x : Bool) : PMem w0 B vO out rule word x tgt col (w.setCell ⟨B + 3, 0, none⟩ (.bool x)) := by
  obtain ⟨hb, hs, h0, h2, h3, h4, h5, vD, okO, okD, h1, hO, hD, hx, hy⟩ := h
  refine ⟨hb.setCell (p := ⟨B + 3, 0, none⟩) (by simp) _, by simpa using hs, blk_far h0 (by simp) _, blk_far h2 (by simp) _, blk_set h3 0 _, blk_far h4 (by simp) _, blk_far h5 (by simp) _, vD, okO, okD, blk_far h1 (by simp) _,
    Kd.S_far hO (fun k hk => by have := hx k hk; simp; omega) _, Kd.R_far hD (fun k hk => by have := hy k hk; simp; omega) _, by simpa using hx, by simpa using hy⟩
theorem PMem.setTgt (h : PMem w0 B vO out rule word inn tgt col w) (x : Bool) : PMem w0 B vO out rule word inn x col (w.setCell ⟨B + 4, 0, none⟩ (.bool x)) := by
  obtain ⟨hb, hs, h0, h2, h3, h4, h5, vD, okO, okD, h1, hO, hD, hx, hy⟩ := h
  refine ⟨hb.setCell (p := ⟨B + 4, 0, none⟩) (by simp) _, by simpa using hs, blk_far h0 (by simp) _, blk_far h2 (by simp) _, blk_far h3 (by simp) _, blk_set h4 0 _, blk_far h5 (by simp) _, vD, okO, okD, blk_far h1 (by simp) _,
    Kd.S_far hO (fun k hk => by have := hx k hk; simp; omega) _, Kd.R_far hD (fun k hk => by have := hy k hk; simp; omega) _, by simpa using hx, by simpa using hy⟩
theorem PMem.setCol (h : PMem w0 B vO out rule word inn tgt col w) (x : Bool) : PMem w0 B vO out rule word inn tgt x (w.setCell ⟨B + 5, 0, none⟩ (.bool x)) := by
  obtain ⟨hb, hs, h0, h2, h3, h4, h5, vD, okO, okD, h1, hO, hD, hx, hy⟩ := h
  refine ⟨hb.setCell (p := ⟨B + 5, 0, none⟩) (by simp) _, by simpa using hs, blk_far h0 (by simp) _, blk_far h2 (by simp) _, blk_far h3 (by simp) _, blk_far h4 (by simp) _, blk_set h5 0 _, vD, okO, okD, blk_far h1 (by simp) _,
    Kd.S_far hO (fun k hk => by have := hx k hk; simp; omega) _, Kd.R_far hD (fun k hk => by have := hy k hk; simp; omega) _, by simpa using hx, by simpa using hy⟩
theorem PMem.setName (h : PMem w0 B vO out rule word inn tgt col w) (x : ByteArray) : PMem w0 B vO out ⟨x, rule.f1⟩ word inn tgt col (w.setCell ⟨B + 1, 0, none⟩ (.string x)) := by
  obtain ⟨hb, hs, h0, h2, h3, h4, h5, vD, okO, okD, h1, hO, hD, hx, hy⟩ := h
  refine ⟨hb.setCell (p := ⟨B + 1, 0, none⟩) (by simp) _, by simpa using hs, blk_far h0 (by simp) _, blk_far h2 (by simp) _, blk_far h3 (by simp) _, blk_far h4 (by simp) _, blk_far h5 (by simp) _, vD, okO, okD, blk_set h1 0 _,
    Kd.S_far hO (fun k hk => by have := hx k hk; simp; omega) _, Kd.R_far hD (fun k hk => by have := hy k hk; simp; omega) _, by simpa using hx, by simpa using hy⟩
end

/-- behind an append to the rule's texts -/
theorem PMem.grow {w0 : World} {B : Nat} {vO vD v1 : Value} {out : List S32} {rule : S32} {word x : ByteArray} {inn tgt col : Bool} {w w1 : World} {okO okD : Nat → Prop}
    (hb : Below B w0 w) (hs : B + 6 ≤ w.heap.size) (h0 : w.heap[B]? = some (.cells #[.int .i64 0, .int .i64 0] 26 (0, 0))) (h2 : w.heap[B + 2]? = some (.cells #[.string word] 9 (0, 0)))
    (h3 : w.heap[B + 3]? = some (.cells #[.bool inn] 4 (0, 0))) (h4 : w.heap[B + 4]? = some (.cells #[.bool tgt] 4 (0, 0))) (h5 : w.heap[B + 5]? = some (.cells #[.bool col] 4 (0, 0)))
    (h1 : w.heap[B + 1]? = some (.cells #[.string rule.f0, vD] 32 (0, 0))) (hO : Kd.S k32 32 w (B + 6) okO vO out) (hD : Kd.R Kd.string 9 w (B + 6) okD vD rule.f1)
    (hx : ∀ k, okO k → B + 6 ≤ k ∧ k < w.heap.size ∧ ¬ okD k) (hy : ∀ k, okD k → B + 6 ≤ k ∧ k < w.heap.size)
    (ho : Kd.R Kd.string 9 w1 (B + 6) (fun k => okD k ∨ w.heap.size ≤ k) v1 (rule.f1 ++ [x])) (hg : w.grownBy w1 vD.ownBlock) :
    w1.heap[B + 1]? = some (.cells #[.string rule.f0, vD] 32 (0, 0)) ∧ w1.heap[B + 2]? = some (.cells #[.string word] 9 (0, 0)) ∧ w1.heap[B + 3]? = some (.cells #[.bool inn] 4 (0, 0)) ∧
      PMem w0 B vO out ⟨rule.f0, rule.f1 ++ [x]⟩ word inn tgt col (w1.setCell ⟨B + 1, 1, none⟩ v1) := by
  have hne : ∀ g, g < B + 6 → some g ≠ vD.ownBlock := fun g hg he => by have := hy g (hD.1 g he.symm); omega
  have g0 := blk_grown h0 hg (hne _ (by omega))
  have g1 := blk_grown h1 hg (hne _ (by omega))
  have g2 := blk_grown h2 hg (hne _ (by omega))
  have g3 := blk_grown h3 hg (hne _ (by omega))
  have g4 := blk_grown h4 hg (hne _ (by omega))
  have g5 := blk_grown h5 hg (hne _ (by omega))
  have hsz := hg.size
  refine ⟨g1, g2, g3, (pw_below_grown hb _ (by omega) hg (fun k hk => by have := hy k (hD.1 k hk); omega)).setCell (p := ⟨B + 1, 1, none⟩) (by simp) _, by simp; omega, blk_far g0 (by simp) _, blk_far g2 (by simp) _, blk_far g3 (by simp) _,
    blk_far g4 (by simp) _, blk_far g5 (by simp) _, v1, okO, fun k => (okD k ∨ w.heap.size ≤ k) ∧ B + 6 ≤ k ∧ k < w1.heap.size, blk_set g1 1 _, Kd.S_far (Kd.S_grown hO hg (fun k hk he => (hx k hk).2.2 (hD.1 k he.symm))) (fun k hk => by have := hx k hk; simp; omega) _,
    Kd.R_far (Kd.R_mono (Kd.R_bound ho) (fun k hk => ⟨hk.1, hk.2.1, hk.2.2.1⟩)) (fun k hk => by simp; omega) _, fun k hk => ?_, fun k hk => by simpa using hk.2⟩
  have h := hx k hk
  refine ⟨h.1, by simp; omega, fun hd => ?_⟩
  rcases hd.1 with h' | h'
  · exact h.2.2 h'
  · omega

def closeRule (rule : S32) (word : ByteArray) (inn col : Bool) : S32 := if inn && col then ⟨rule.f0, rule.f1 ++ [word]⟩ else if inn then ⟨word, rule.f1⟩ else rule
def closeTgt (inn tgt col : Bool) : Bool := tgt || inn && !col

set_option maxHeartbeats 4000000 in
set_option maxRecDepth 1000000 in
theorem close_calls {w0 : World} {B : Nat} {vO : Value} {out : List S32} {rule : S32} {word : ByteArray} {inn tgt col : Bool} {w : World} (hP0 : PMem w0 B vO out rule word inn tgt col w) (hl : (rule.f1.length + 1) * 16 ≤ 140737488355328) :
    Calls Try.prog 27 #[.pointer (some ⟨B + 3, 0, none⟩), .pointer (some ⟨B + 5, 0, none⟩), .pointer (some ⟨B + 1, 0, none⟩), .pointer (some ⟨B + 2, 0, none⟩), .pointer (some ⟨B + 4, 0, none⟩)] w fun e w' => e = .returned (.tuple #[]) ∧
      PMem w0 B vO out (closeRule rule word inn col) ⟨#[]⟩ false (closeTgt inn tgt col) col w' := by
  have h' := hP0
  obtain ⟨hb, hs, h0, h2, h3, h4, h5, vD, okO, okD, h1, hO, hD, hx, hy⟩ := h'
  have c3 : w.cell? ⟨B + 3, 0, none⟩ = some (.bool inn) := blk_cell h3 0
  have c5 : w.cell? ⟨B + 5, 0, none⟩ = some (.bool col) := blk_cell h5 0
  have c2 : w.cell? ⟨B + 2, 0, none⟩ = some (.string word) := blk_cell h2 0
  have c4 : w.cell? ⟨B + 4, 0, none⟩ = some (.bool tgt) := blk_cell h4 0
  have c1 : w.cell? ⟨B + 1, 0, none⟩ = some (.string rule.f0) := blk_cell h1 0
  have c1b : w.cell? ⟨B + 1, 1, none⟩ = some vD := blk_cell h1 1
  have f2 : w.frozen? ⟨B + 2, 0, none⟩ = false := blk_frozen h2 0
  have f3 : w.frozen? ⟨B + 3, 0, none⟩ = false := blk_frozen h3 0
  have f4 : w.frozen? ⟨B + 4, 0, none⟩ = false := blk_frozen h4 0
  have f1 : w.frozen? ⟨B + 1, 0, none⟩ = false := blk_frozen h1 0
  have f1b : w.frozen? ⟨B + 1, 1, none⟩ = false := blk_frozen h1 1
  cases inn with
  | false =>
    go_enter Try.func27, Try.ntmps27
    go_wp2
    go_end0
    exact ⟨rfl, by simpa [closeRule, closeTgt] using (hP0.setWord ⟨#[]⟩).setInn false⟩
  | true =>
    cases col with
    | false =>
      go_enter Try.func27, Try.ntmps27
      go_wp2
      go_end0
      exact ⟨rfl, by simpa [closeRule, closeTgt] using (((hP0.setName word).setTgt true).setWord ⟨#[]⟩).setInn false⟩
    | true =>
      go_enter Try.func27, Try.ntmps27
      go_wp2_with (first | ((with_reducible refine gate_builtin (b := .append) (xs := #[.tmp 13, .tmp 15]) rfl ?_); at_builtin; refine Kd.R_append Kd.string (w0 := w) (W := w) (B + 6) rfl (.tmp 13) (.tmp 15) 30 9 (.string ⟨#[]⟩) 16 rfl Try.underlying30 info9 rfl (by decide) (by omega) vD rule.f1 word [.string word] (fun k => okD k ∨ w.heap.size ≤ k) (fun _ => False) rfl rfl ?aP (fun _ hk => hk.elim) ?aF ?aO ?aB ?aS ?aL ?_; (case aP => exact rfl); (case aF => exact fun k hk => .inr hk); (case aO => exact Kd.R_mono hD (fun k hk => .inl hk)); (case aB => exact Below.refl _ _); (case aS => exact hs); (case aL => exact hl); intro v1 w1 ho hbl hg hat; obtain ⟨A1, c1, rfl⟩ := Kd.R_slice ho; obtain ⟨g1, g2, g3, hP⟩ := PMem.grow hb hs h0 h2 h3 h4 h5 h1 hO hD hx hy ho hg; have k1 : w1.cell? ⟨B + 1, 1, none⟩ = some vD := blk_cell g1 1; have k2 : w1.cell? ⟨B + 2, 0, none⟩ = some (.string word) := blk_cell g2 0; have k3 : w1.cell? ⟨B + 3, 0, none⟩ = some (.bool true) := blk_cell g3 0; have e1 := blk_frozen g1 1; have e2 := blk_frozen g2 0; have e3 := blk_frozen g3 0))
      go_end0
      exact ⟨rfl, by simpa [closeRule, closeTgt] using (hP.setWord ⟨#[]⟩).setInn false⟩
end Go.Proofs.Ytahdgaaedilcmaa.P
