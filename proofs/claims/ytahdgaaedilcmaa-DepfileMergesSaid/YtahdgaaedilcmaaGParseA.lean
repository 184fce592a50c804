/- depfile.Parse: the machine's walk. -/
import Derived.Test.YtahdgaaedilcmaaGMem
import Derived.WalkMore
import Derived.BigQuiet
namespace Go.Proofs.Ytahdgaaedilcmaa.P
open Go.RowKit Go.Proofs.YtahdgaaedilcmaaW.PrintWords Go.Proofs.YtahdgaaedilcmaaW.PrintLast Go.Proofs.YtahdgaaedilcmaaW.PrintMore
set_option linter.unusedVariables false
set_option linter.unusedSimpArgs false

def oneB (c : Int) : ByteArray := strOfNums [c]
/-- the loop: a byte, or two, a round -/
def depfile_Parse.l0 : Nat → ByteArray → List S32 → S32 → ByteArray → Bool → Bool → Bool → Int → Option (List S32 × Int × Int)
  | 0, _, _, _, _, _, _, _, _ => none
  | k + 1, a0, out, rule, word, inn, tgt, col, i =>
    if 0 ≤ i ∧ i ≤ 32770 ∧ out.length < 100000 ∧ rule.f1.length < 100000 ∧ word.size < 100000 then
      if i ≤ (a0.size : Int) then
        if i = (a0.size : Int) ∨ bt a0 i = 10 then
          if closeTgt inn tgt col = true then
            if col = false then some ([], 6, i)
            else depfile_Parse.l0 k a0 (out ++ [closeRule rule word inn col]) z32 ⟨#[]⟩ false false false (i + 1)
          else depfile_Parse.l0 k a0 out z32 ⟨#[]⟩ false false false (i + 1)
        else if bt a0 i < 32 then some ([], 6, i)
        else if bt a0 i = 32 then depfile_Parse.l0 k a0 out (closeRule rule word inn col) ⟨#[]⟩ false (closeTgt inn tgt col) col (i + 1)
        else if bt a0 i = 58 then
          if closeTgt inn tgt col = false ∨ col = true then some ([], 6, i)
          else depfile_Parse.l0 k a0 out (closeRule rule word inn col) ⟨#[]⟩ false (closeTgt inn tgt col) true (i + 1)
        else if bt a0 i = 92 then
          if i + 1 = (a0.size : Int) ∨ escI (bt a0 (i + 1)) = false then some ([], 6, i)
          else if bt a0 (i + 1) = 10 then depfile_Parse.l0 k a0 out (closeRule rule word inn col) ⟨#[]⟩ false (closeTgt inn tgt col) col (i + 1 + 1)
          else if inn = false ∧ tgt = true ∧ col = false then some ([], 6, i)
          else depfile_Parse.l0 k a0 out rule (word ++ oneB (bt a0 (i + 1))) true tgt col (i + 1 + 1)
        else if inn = false ∧ tgt = true ∧ col = false then some ([], 6, i)
        else depfile_Parse.l0 k a0 out rule (word ++ oneB (bt a0 i)) true tgt col (i + 1)
      else some (out, 0, 0)
    else none
def depfile_Parse.f (k : Nat) (a0 : ByteArray) : Option (List S32 × Int × Int) :=
  if (32768 : Int) < (a0.size : Int) then some ([], 3, 32768) else depfile_Parse.l0 k a0 [] z32 ⟨#[]⟩ false false false 0
theorem depfile_Parse.mono_l0 : ∀ (k : Nat) (a0 : ByteArray) (out : List S32) (rule : S32) (word : ByteArray) (inn tgt col : Bool) (i : Int), LeO (depfile_Parse.l0 k a0 out rule word inn tgt col i) (depfile_Parse.l0 (k + 1) a0 out rule word inn tgt col i) := by
  intro k
  induction k with
  | zero => intros; exact LeO.none _
  | succ k ih =>
    intro a0 out rule word inn tgt col i
    rw [depfile_Parse.l0, depfile_Parse.l0.eq_def (k + 1 + 1)]
    repeat' (first | exact LeO.refl _ | exact ih _ _ _ _ _ _ _ _ | apply LeO.ite)
theorem depfile_Parse.mono (k : Nat) (a0 : ByteArray) : LeO (depfile_Parse.f k a0) (depfile_Parse.f (k + 1) a0) := LeO.ite (LeO.refl _) (depfile_Parse.mono_l0 _ _ _ _ _ _ _ _ _)

theorem info26s : (Try.prog.info? 26).map (·.size) = some 2 := by kernel_rfl
section
variable {w0 : World} {B : Nat} {vO : Value} {out : List S32} {rule : S32} {word : ByteArray} {inn tgt col : Bool} {w : World}
/-- what the walk reads of memory -/
theorem PMem.cells (h : PMem w0 B vO out rule word inn tgt col w) :
    w.cell? ⟨B + 3, 0, none⟩ = some (.bool inn) ∧ w.cell? ⟨B + 4, 0, none⟩ = some (.bool tgt) ∧ w.cell? ⟨B + 5, 0, none⟩ = some (.bool col) ∧ w.cell? ⟨B + 2, 0, none⟩ = some (.string word) ∧
    w.cell? ⟨B, 0, none⟩ = some (.int .i64 0) ∧ w.cell? ⟨B, 1, none⟩ = some (.int .i64 0) ∧ w.frozen? ⟨B, 0, none⟩ = false ∧ w.frozen? ⟨B, 1, none⟩ = false ∧
    w.frozen? ⟨B + 2, 0, none⟩ = false ∧ w.frozen? ⟨B + 3, 0, none⟩ = false ∧ w.frozen? ⟨B + 4, 0, none⟩ = false ∧ w.frozen? ⟨B + 5, 0, none⟩ = false ∧
    w.frozen? ⟨B + 1, 0, none⟩ = false ∧ w.frozen? ⟨B + 1, 1, none⟩ = false ∧ w.cell? ⟨B + 1, 0, none⟩ = some (.string rule.f0) ∧ ∃ A n c, w.cell? ⟨B + 1, 1, none⟩ = some (.slice A n c) := by
  obtain ⟨hb, hs, h0, h2, h3, h4, h5, vD, okO, okD, h1, hO, hD, hx, hy⟩ := h
  obtain ⟨A, c, rfl⟩ := Kd.R_slice hD
  exact ⟨blk_cell h3 0, blk_cell h4 0, blk_cell h5 0, blk_cell h2 0, blk_cell h0 0, blk_cell h0 1, blk_frozen h0 0, blk_frozen h0 1, blk_frozen h2 0, blk_frozen h3 0, blk_frozen h4 0, blk_frozen h5 0, blk_frozen h1 0, blk_frozen h1 1, blk_cell h1 0, A, _, c, blk_cell h1 1⟩
theorem PMem.below_ (h : PMem w0 B vO out rule word inn tgt col w) {w1 : World} (hb1 : Below w.heap.size w w1) : PMem w0 B vO out rule word inn tgt col w1 := by
  obtain ⟨hb, hs, h0, h2, h3, h4, h5, vD, okO, okD, h1, hO, hD, hx, hy⟩ := h
  have := hb1.size
  exact ⟨below_then hb (by omega) hb1, by omega, blk_below h0 hb1, blk_below h2 hb1, blk_below h3 hb1, blk_below h4 hb1, blk_below h5 hb1, vD, okO, okD, blk_below h1 hb1, Kd.S_below hO hb1, Kd.R_below hD hb1,
    fun k hk => ⟨(hx k hk).1, by have := hx k hk; omega, (hx k hk).2.2⟩, fun k hk => ⟨(hy k hk).1, by have := hy k hk; omega⟩⟩
theorem PMem.drewN_ (h : PMem w0 B vO out rule word inn tgt col w) (n : Nat) : PMem w0 B vO out rule word inn tgt col (w.drewN n) := h.below_ (pw_below_drewN (Below.refl _ _) n)
theorem PMem.tell (h : PMem w0 B vO out rule word inn tgt col w) (e at_ : Int) :
    ((w.setCell ⟨B, 0, none⟩ (.int .i64 e)).setCell ⟨B, 1, none⟩ (.int .i64 at_)).heap[B]? = some (.cells #[.int .i64 e, .int .i64 at_] 26 (0, 0)) ∧
    Below B w0 ((w.setCell ⟨B, 0, none⟩ (.int .i64 e)).setCell ⟨B, 1, none⟩ (.int .i64 at_)) ∧
    Kd.S k32 32 ((w.setCell ⟨B, 0, none⟩ (.int .i64 e)).setCell ⟨B, 1, none⟩ (.int .i64 at_)) B (fun _ => True) vO out := by
  obtain ⟨hb, hs, h0, h2, h3, h4, h5, vD, okO, okD, h1, hO, hD, hx, hy⟩ := h
  refine ⟨blk_set (blk_set h0 0 _) 1 _, (hb.setCell (p := ⟨B, 0, none⟩) (by simp) _).setCell (p := ⟨B, 1, none⟩) (by simp) _, ?_⟩
  exact Kd.S_lower (Kd.S_mono (Kd.S_far (Kd.S_far hO (p := ⟨B, 0, none⟩) (fun k hk => by have := hx k hk; simp; omega) _) (p := ⟨B, 1, none⟩) (fun k hk => by have := hx k hk; simp; omega) _) (fun _ _ => trivial)) (by omega)
/-- a new rule -/
theorem PMem.setRule0 (h : PMem w0 B vO out rule word inn tgt col w) : PMem w0 B vO out z32 word inn tgt col ((w.setCell ⟨B + 1, 0, none⟩ (.string ⟨#[]⟩)).setCell ⟨B + 1, 1, none⟩ (.slice none 0 0)) := by
  obtain ⟨hb, hs, h0, h2, h3, h4, h5, vD, okO, okD, h1, hO, hD, hx, hy⟩ := h
  refine ⟨(hb.setCell (p := ⟨B + 1, 0, none⟩) (by simp) _).setCell (p := ⟨B + 1, 1, none⟩) (by simp) _, by simpa using hs, blk_far (blk_far h0 (by simp) _) (by simp) _, blk_far (blk_far h2 (by simp) _) (by simp) _, blk_far (blk_far h3 (by simp) _) (by simp) _,
    blk_far (blk_far h4 (by simp) _) (by simp) _, blk_far (blk_far h5 (by simp) _) (by simp) _, .slice none 0 0, okO, fun _ => False, blk_set (blk_set h1 0 _) 1 _,
    Kd.S_far (Kd.S_far hO (p := ⟨B + 1, 0, none⟩) (fun k hk => by have := hx k hk; simp; omega) _) (p := ⟨B + 1, 1, none⟩) (fun k hk => by have := hx k hk; simp; omega) _, Kd.R_nil _ _ _ _ _, fun k hk => ⟨(hx k hk).1, by simpa using (hx k hk).2.1, fun h => h⟩, fun _ h => h.elim⟩
theorem PMem.reset (h : PMem w0 B vO out rule word inn tgt col w) : PMem w0 B vO out z32 word inn false false ((((w.setCell ⟨B + 1, 0, none⟩ (.string ⟨#[]⟩)).setCell ⟨B + 1, 1, none⟩ (.slice none 0 0)).setCell ⟨B + 4, 0, none⟩ (.bool false)).setCell ⟨B + 5, 0, none⟩ (.bool false)) :=
  (h.setRule0.setTgt false).setCol false
/-- behind an append to the rules -/
theorem PMem.push {vD v1 : Value} {w1 : World} {okO okD : Nat → Prop}
    (hb : Below B w0 w) (hs : B + 6 ≤ w.heap.size) (h0 : w.heap[B]? = some (.cells #[.int .i64 0, .int .i64 0] 26 (0, 0))) (h2 : w.heap[B + 2]? = some (.cells #[.string word] 9 (0, 0)))
    (h3 : w.heap[B + 3]? = some (.cells #[.bool inn] 4 (0, 0))) (h4 : w.heap[B + 4]? = some (.cells #[.bool tgt] 4 (0, 0))) (h5 : w.heap[B + 5]? = some (.cells #[.bool col] 4 (0, 0)))
    (h1 : w.heap[B + 1]? = some (.cells #[.string rule.f0, vD] 32 (0, 0))) (hO : Kd.S k32 32 w (B + 6) okO vO out) (hD : Kd.R Kd.string 9 w (B + 6) okD vD rule.f1)
    (hx : ∀ k, okO k → B + 6 ≤ k ∧ k < w.heap.size ∧ ¬ okD k) (hy : ∀ k, okD k → B + 6 ≤ k ∧ k < w.heap.size)
    (ho : Kd.S k32 32 w1 (B + 6) (fun k => okO k ∨ okD k ∨ w.heap.size ≤ k) v1 (out ++ [rule])) (hg : w.grownBy w1 vO.ownBlock) :
    w1.heap[B + 1]? = some (.cells #[.string rule.f0, vD] 32 (0, 0)) ∧ w1.heap[B + 4]? = some (.cells #[.bool tgt] 4 (0, 0)) ∧ w1.heap[B + 5]? = some (.cells #[.bool col] 4 (0, 0)) ∧
      PMem w0 B v1 (out ++ [rule]) z32 word inn false false ((((w1.setCell ⟨B + 1, 0, none⟩ (.string ⟨#[]⟩)).setCell ⟨B + 1, 1, none⟩ (.slice none 0 0)).setCell ⟨B + 4, 0, none⟩ (.bool false)).setCell ⟨B + 5, 0, none⟩ (.bool false)) := by
  have hO1 := (Kd.S_R hO).1
  have hne : ∀ g, g < B + 6 → some g ≠ vO.ownBlock := fun g hg he => by have := hx g (hO1 g he.symm); omega
  have g0 := blk_grown h0 hg (hne _ (by omega))
  have g1 := blk_grown h1 hg (hne _ (by omega))
  have g2 := blk_grown h2 hg (hne _ (by omega))
  have g3 := blk_grown h3 hg (hne _ (by omega))
  have g4 := blk_grown h4 hg (hne _ (by omega))
  have g5 := blk_grown h5 hg (hne _ (by omega))
  have hsz := hg.size
  have hB1 := pw_below_grown hb _ (by omega) hg (fun k hk => by have := hx k (hO1 k hk); omega)
  refine ⟨g1, g4, g5, (PMem.setTgt (tgt := tgt) (col := col) ?_ false).setCol false⟩
  refine ⟨(hB1.setCell (p := ⟨B + 1, 0, none⟩) (by simp) _).setCell (p := ⟨B + 1, 1, none⟩) (by simp) _, by simp; omega, blk_far (blk_far g0 (by simp) _) (by simp) _, blk_far (blk_far g2 (by simp) _) (by simp) _, blk_far (blk_far g3 (by simp) _) (by simp) _,
    blk_far (blk_far g4 (by simp) _) (by simp) _, blk_far (blk_far g5 (by simp) _) (by simp) _, .slice none 0 0, fun k => (okO k ∨ okD k ∨ w.heap.size ≤ k) ∧ B + 6 ≤ k ∧ k < w1.heap.size, fun _ => False, blk_set (blk_set g1 0 _) 1 _,
    Kd.S_far (Kd.S_far (Kd.S_mono (Kd.S_bound ho) (fun k hk => ⟨hk.1, hk.2.1, hk.2.2.1⟩)) (p := ⟨B + 1, 0, none⟩) (fun k hk => by simp; omega) _) (p := ⟨B + 1, 1, none⟩) (fun k hk => by simp; omega) _, Kd.R_nil _ _ _ _ _, fun k hk => ⟨hk.2.1, by simpa using hk.2.2, fun h => h⟩, fun _ h => h.elim⟩
end
set_option maxHeartbeats 1000000 in
theorem wrong_calls (at_ : Int) (w : World) :
    Calls Try.prog 28 #[.int .i64 at_] w fun e w' => e = .returned (.tuple #[.slice none 0 0, .agg #[.int .i64 6, .int .i64 at_]]) ∧ Below w.heap.size w w' := by
  go_enter Try.func28, Try.ntmps28
  go_wp2
  refine bodyPost_ret (results_tc rfl _ _ w.heap.size 26 _ (0, 0) _ rfl (blk_new w _) Try.underlying26 rfl info26s) rfl ⟨rfl, ?_⟩
  exact (Below.refl _ w).alloc (Nat.le_refl _) _
/-- at the beginning: six new variables -/
theorem PMem.start (w : World) :
    PMem w w.heap.size (.slice none 0 0) [] z32 ⟨#[]⟩ false false false ((((((w.alloc (.cells #[.int .i64 0, .int .i64 0] 26)).alloc (.cells #[.string ⟨#[]⟩, .slice none 0 0] 32)).alloc (.cells #[.string ⟨#[]⟩] 9)).alloc (.cells #[.bool false] 4)).alloc (.cells #[.bool false] 4)).alloc (.cells #[.bool false] 4)) := by
  have e : ∀ (W : World) (o o' : Obj), (W.alloc o).heap.size = W.heap.size + 1 := by intros; simp
  refine ⟨?_, by simp, ?_, ?_, ?_, ?_, ?_, .slice none 0 0, fun _ => False, fun _ => False, ?_, Kd.S_nil _ _ _ _ _, Kd.R_nil _ _ _ _ _, fun _ h => h.elim, fun _ h => h.elim⟩
  · exact ((((((Below.refl _ w).alloc (Nat.le_refl _) _).alloc (by simp) _).alloc (by simp; omega) _).alloc (by simp; omega) _).alloc (by simp; omega) _).alloc (by simp; omega) _
  · exact blk_alloc (blk_alloc (blk_alloc (blk_alloc (blk_alloc (blk_new w _) _) _) _) _) _
  · have h := blk_alloc (blk_alloc (blk_alloc (blk_new ((w.alloc (.cells #[.int .i64 0, .int .i64 0] 26)).alloc (.cells #[.string ⟨#[]⟩, .slice none 0 0] 32)) (.cells #[.string ⟨#[]⟩] 9)) (.cells #[.bool false] 4)) (.cells #[.bool false] 4)) (.cells #[.bool false] 4)
    simpa only [World.size_alloc, Nat.add_assoc, Nat.reduceAdd] using h
  · have h := blk_alloc (blk_alloc (blk_new (((w.alloc (.cells #[.int .i64 0, .int .i64 0] 26)).alloc (.cells #[.string ⟨#[]⟩, .slice none 0 0] 32)).alloc (.cells #[.string ⟨#[]⟩] 9)) (.cells #[.bool false] 4)) (.cells #[.bool false] 4)) (.cells #[.bool false] 4)
    simpa only [World.size_alloc, Nat.add_assoc, Nat.reduceAdd] using h
  · have h := blk_alloc (blk_new ((((w.alloc (.cells #[.int .i64 0, .int .i64 0] 26)).alloc (.cells #[.string ⟨#[]⟩, .slice none 0 0] 32)).alloc (.cells #[.string ⟨#[]⟩] 9)).alloc (.cells #[.bool false] 4)) (.cells #[.bool false] 4)) (.cells #[.bool false] 4)
    simpa only [World.size_alloc, Nat.add_assoc, Nat.reduceAdd] using h
  · have h := blk_new (((((w.alloc (.cells #[.int .i64 0, .int .i64 0] 26)).alloc (.cells #[.string ⟨#[]⟩, .slice none 0 0] 32)).alloc (.cells #[.string ⟨#[]⟩] 9)).alloc (.cells #[.bool false] 4)).alloc (.cells #[.bool false] 4)) (.cells #[.bool false] 4)
    simpa only [World.size_alloc, Nat.add_assoc, Nat.reduceAdd] using h
  · have h := blk_alloc (blk_alloc (blk_alloc (blk_alloc (blk_new (w.alloc (.cells #[.int .i64 0, .int .i64 0] 26)) (.cells #[.string ⟨#[]⟩, .slice none 0 0] 32)) (.cells #[.string ⟨#[]⟩] 9)) (.cells #[.bool false] 4)) (.cells #[.bool false] 4)) (.cells #[.bool false] 4)
    have h' : _ = some (Obj.cells #[.string z32.f0, .slice none 0 0] 32 (0, 0)) := h
    simpa only [World.size_alloc, Nat.add_assoc, Nat.reduceAdd] using h'
/-- append(out, rule), the rule's texts handed on -/
theorem push_event {w : World} {B : Nat} {vO : Value} {out : List S32} {rule : S32} {okO okD : Nat → Prop} {A2 : Option Addr} {C2 : Nat} {ops : Array Oper} {rest : List Oper} {o : Oper} {a : Act} {Q : Exit → Act → World → Prop}
    (hgd : o.guard = none) (ho : o.op = .call { callee := .builtin .append, args := #[.tmp 51, .tmp 53], argTypes := #[23, 23] }) (hs : a.eval (.tmp 51) = vO) (hx : a.eval (.tmp 53) = .slice (some ⟨w.heap.size, 0, none⟩) 1 1)
    (hsz : B ≤ w.heap.size) (hO : Kd.S k32 32 w B okO vO out) (hD : Kd.R Kd.string 9 w B okD (.slice A2 rule.f1.length C2) rule.f1) (hxy : ∀ k, okO k → ¬ okD k) (hl : (out.length + 1) * 40 ≤ 140737488355328)
    (h : ∀ (A6 : Option Addr) (c6 : Nat) (w1 : World), Kd.S k32 32 w1 B (fun k => okO k ∨ okD k ∨ w.heap.size ≤ k) (.slice A6 (out.length + 1) c6) (out ++ [rule]) → w.grownBy w1 vO.ownBlock → wpList Try.prog ops Q rest (a.put o.dst (.slice A6 (out.length + 1) c6)) w1) :
    wpList Try.prog ops Q (o :: rest) a (w.alloc (.cells #[.string rule.f0, .slice A2 rule.f1.length C2] 32)) := by
  refine Kd.S_append k32 (w0 := w) (W := w) B hgd (.tmp 51) (.tmp 53) 23 32 (.agg #[(.string ⟨#[]⟩), (.slice none 0 0)]) 40 ho Try.underlying23 info32 rfl (by decide) (by omega) vO out rule [.string rule.f0, .slice A2 rule.f1.length C2] (fun k => okO k ∨ okD k ∨ w.heap.size ≤ k) okD hs hx
    (k32_mkM _ _ _ _ hD) (fun k hk => ⟨.inr (.inl hk), fun he => hxy k ((Kd.S_R hO).1 k he.symm) hk⟩) (fun k hk => .inr (.inr hk)) (Kd.S_mono hO (fun k hk => ⟨.inl hk, hxy k hk⟩)) (Below.refl _ _) hsz hl ?_
  intro v1 w1 ho1 hbl hg hat
  obtain ⟨A6, c6, rfl⟩ := Kd.R_slice (Kd.S_R ho1)
  rw [List.length_append, List.length_singleton] at ho1 ⊢
  exact h A6 c6 w1 ho1 hg
theorem wrap32_ {x : Int} (h0 : 0 ≤ x) (h1 : x ≤ 255) : wrap32 x = x := by unfold wrap32; omega
/-- string([]byte{c}) -/
theorem conv_one (W : World) (c : Int) (h0 : 0 ≤ c) (h1 : c ≤ 255) :
    (convert 35 9 (.slice (some ⟨W.heap.size, 0, none⟩) 1 1)).run Try.prog (W.alloc (.cells #[.int .u8 c] 5)) = .ok (.string (oneB c)) (W.alloc (.cells #[.int .u8 c] 5)) := by
  have h := own_lit W W.heap.size 5 .u8 [c] (Nat.le_refl _) (by simp)
  have h2 := own_string (P := Try.prog) (src := 35) (dst := 9) (e := 5) Try.underlying35 Try.underlying5 Try.underlying9 h
  exact h2
def firstLoop : Code → Option Code
  | .loop c => some c
  | .seq a b => match firstLoop a with
    | some c => some c
    | none => firstLoop b
  | .block _ c => firstLoop c
  | .scope c => firstLoop c
  | .cond _ a b => match firstLoop a with
    | some c => some c
    | none => firstLoop b
  | _ => none
noncomputable def dpBody : Code := (Try.f12.body.bind firstLoop).getD .skip
def DPost (r1 : List S32) (r2 r3 : Int) (w : World) (e : Ending) (w' : World) : Prop := ∃ v0_ : Value, e = .returned (.tuple #[v0_, .agg #[.int .i64 r2, .int .i64 r3]]) ∧ Kd.S k32 32 w' w.heap.size (fun _ => True) v0_ r1 ∧ Below w.heap.size w w'
theorem DPost.mk {r1 : List S32} {r2 r3 : Int} {w w' : World} {v : Value} (h : Kd.S k32 32 w' w.heap.size (fun _ => True) v r1) (hb : Below w.heap.size w w') : DPost r1 r2 r3 w (.returned (.tuple #[v, .agg #[.int .i64 r2, .int .i64 r3]])) w' := ⟨_, rfl, h, hb⟩
set_option maxRecDepth 100000 in
/-- the frame at the head of the loop -/
inductive DpSt (a0 : ByteArray) (w : World) (r1 : List S32) (r2 r3 : Int) (m : Nat) : Act → World → Prop
  | mk' (out : List S32) (rule : S32) (word : ByteArray) (inn tgt col : Bool) (i : Int) (vO u1 u2 u13 u14 u15 u16 u17 u18 u19 u20 u21 u22 u23 u24 u25 u26 u27 u28 u29 u30 u31 u32 u33 u34 u35 u36 u37 u38 u39 u40 u41 u42 u43 u44 u45 u46 u47 u48 u49 u50 u51 u52 u53 u54 u55 u56 u57 u58 u59 u60 u61 u62 u63 u64 u65 u66 u67 u68 u69 u70 u71 u72 u73 u74 u75 u76 u77 u78 u79 u80 u81 u82 u83 u84 u85 u86 u87 u88 u89 u90 u91 u92 u93 u94 u95 u96 u97 u98 u99 u100 u101 u102 u103 u104 u105 u106 u107 u108 u109 u110 u111 u112 u113 u114 u115 u116 u117 u118 u119 u120 u121 u122 u123 u124 u125 u126 u127 u128 u129 u130 u131 u132 u133 u134 u135 u136 u137 : Value) {wr : World} (H : depfile_Parse.l0 m a0 out rule word inn tgt col i = some (r1, r2, r3)) (hM : PMem w w.heap.size vO out rule word inn tgt col wr) :
      DpSt a0 w r1 r2 r3 m { tmps := #[.string a0, u1, u2, .pointer (some ⟨w.heap.size, 0, none⟩), vO, .pointer (some ⟨w.heap.size + 1, 0, none⟩), .pointer (some ⟨w.heap.size + 2, 0, none⟩), .pointer (some ⟨w.heap.size + 3, 0, none⟩), .pointer (some ⟨w.heap.size + 4, 0, none⟩), .pointer (some ⟨w.heap.size + 5, 0, none⟩), .func (.func 27) #[] #[.pointer (some ⟨w.heap.size + 3, 0, none⟩), .pointer (some ⟨w.heap.size + 5, 0, none⟩), .pointer (some ⟨w.heap.size + 1, 0, none⟩), .pointer (some ⟨w.heap.size + 2, 0, none⟩), .pointer (some ⟨w.heap.size + 4, 0, none⟩)], .func (.func 28) #[] #[], .int .i64 i, u13, u14, u15, u16, u17, u18, u19, u20, u21, u22, u23, u24, u25, u26, u27, u28, u29, u30, u31, u32, u33, u34, u35, u36, u37, u38, u39, u40, u41, u42, u43, u44, u45, u46, u47, u48, u49, u50, u51, u52, u53, u54, u55, u56, u57, u58, u59, u60, u61, u62, u63, u64, u65, u66, u67, u68, u69, u70, u71, u72, u73, u74, u75, u76, u77, u78, u79, u80, u81, u82, u83, u84, u85, u86, u87, u88, u89, u90, u91, u92, u93, u94, u95, u96, u97, u98, u99, u100, u101, u102, u103, u104, u105, u106, u107, u108, u109, u110, u111, u112, u113, u114, u115, u116, u117, u118, u119, u120, u121, u122, u123, u124, u125, u126, u127, u128, u129, u130, u131, u132, u133, u134, u135, u136, u137], defers := [] } wr
set_option maxRecDepth 100000 in
theorem DpSt.elim {a0 : ByteArray} {w : World} {r1 : List S32} {r2 r3 : Int} {m : Nat} {a : Act} {wr : World} {C : Act → Prop} (h : DpSt a0 w r1 r2 r3 m a wr)
    (hc : ∀ (out : List S32) (rule : S32) (word : ByteArray) (inn tgt col : Bool) (i : Int) (vO u1 u2 u13 u14 u15 u16 u17 u18 u19 u20 u21 u22 u23 u24 u25 u26 u27 u28 u29 u30 u31 u32 u33 u34 u35 u36 u37 u38 u39 u40 u41 u42 u43 u44 u45 u46 u47 u48 u49 u50 u51 u52 u53 u54 u55 u56 u57 u58 u59 u60 u61 u62 u63 u64 u65 u66 u67 u68 u69 u70 u71 u72 u73 u74 u75 u76 u77 u78 u79 u80 u81 u82 u83 u84 u85 u86 u87 u88 u89 u90 u91 u92 u93 u94 u95 u96 u97 u98 u99 u100 u101 u102 u103 u104 u105 u106 u107 u108 u109 u110 u111 u112 u113 u114 u115 u116 u117 u118 u119 u120 u121 u122 u123 u124 u125 u126 u127 u128 u129 u130 u131 u132 u133 u134 u135 u136 u137 : Value), depfile_Parse.l0 m a0 out rule word inn tgt col i = some (r1, r2, r3) → PMem w w.heap.size vO out rule word inn tgt col wr → C { tmps := #[.string a0, u1, u2, .pointer (some ⟨w.heap.size, 0, none⟩), vO, .pointer (some ⟨w.heap.size + 1, 0, none⟩), .pointer (some ⟨w.heap.size + 2, 0, none⟩), .pointer (some ⟨w.heap.size + 3, 0, none⟩), .pointer (some ⟨w.heap.size + 4, 0, none⟩), .pointer (some ⟨w.heap.size + 5, 0, none⟩), .func (.func 27) #[] #[.pointer (some ⟨w.heap.size + 3, 0, none⟩), .pointer (some ⟨w.heap.size + 5, 0, none⟩), .pointer (some ⟨w.heap.size + 1, 0, none⟩), .pointer (some ⟨w.heap.size + 2, 0, none⟩), .pointer (some ⟨w.heap.size + 4, 0, none⟩)], .func (.func 28) #[] #[], .int .i64 i, u13, u14, u15, u16, u17, u18, u19, u20, u21, u22, u23, u24, u25, u26, u27, u28, u29, u30, u31, u32, u33, u34, u35, u36, u37, u38, u39, u40, u41, u42, u43, u44, u45, u46, u47, u48, u49, u50, u51, u52, u53, u54, u55, u56, u57, u58, u59, u60, u61, u62, u63, u64, u65, u66, u67, u68, u69, u70, u71, u72, u73, u74, u75, u76, u77, u78, u79, u80, u81, u82, u83, u84, u85, u86, u87, u88, u89, u90, u91, u92, u93, u94, u95, u96, u97, u98, u99, u100, u101, u102, u103, u104, u105, u106, u107, u108, u109, u110, u111, u112, u113, u114, u115, u116, u117, u118, u119, u120, u121, u122, u123, u124, u125, u126, u127, u128, u129, u130, u131, u132, u133, u134, u135, u136, u137], defers := [] }) : C a := by
  cases h with
  | mk' out rule word inn tgt col i vO u1 u2 u13 u14 u15 u16 u17 u18 u19 u20 u21 u22 u23 u24 u25 u26 u27 u28 u29 u30 u31 u32 u33 u34 u35 u36 u37 u38 u39 u40 u41 u42 u43 u44 u45 u46 u47 u48 u49 u50 u51 u52 u53 u54 u55 u56 u57 u58 u59 u60 u61 u62 u63 u64 u65 u66 u67 u68 u69 u70 u71 u72 u73 u74 u75 u76 u77 u78 u79 u80 u81 u82 u83 u84 u85 u86 u87 u88 u89 u90 u91 u92 u93 u94 u95 u96 u97 u98 u99 u100 u101 u102 u103 u104 u105 u106 u107 u108 u109 u110 u111 u112 u113 u114 u115 u116 u117 u118 u119 u120 u121 u122 u123 u124 u125 u126 u127 u128 u129 u130 u131 u132 u133 u134 u135 u136 u137 H hM => exact hc out rule word inn tgt col i vO u1 u2 u13 u14 u15 u16 u17 u18 u19 u20 u21 u22 u23 u24 u25 u26 u27 u28 u29 u30 u31 u32 u33 u34 u35 u36 u37 u38 u39 u40 u41 u42 u43 u44 u45 u46 u47 u48 u49 u50 u51 u52 u53 u54 u55 u56 u57 u58 u59 u60 u61 u62 u63 u64 u65 u66 u67 u68 u69 u70 u71 u72 u73 u74 u75 u76 u77 u78 u79 u80 u81 u82 u83 u84 u85 u86 u87 u88 u89 u90 u91 u92 u93 u94 u95 u96 u97 u98 u99 u100 u101 u102 u103 u104 u105 u106 u107 u108 u109 u110 u111 u112 u113 u114 u115 u116 u117 u118 u119 u120 u121 u122 u123 u124 u125 u126 u127 u128 u129 u130 u131 u132 u133 u134 u135 u136 u137 H hM
set_option maxRecDepth 100000 in
/-- the frame behind the loop -/
inductive DpEnd (w : World) (r1 : List S32) (r2 r3 : Int) : Act → World → Prop
  | mk' (rule : S32) (word : ByteArray) (inn tgt col : Bool) (i : Int) (a0 : ByteArray) (vO u1 u2 u13 u14 u15 u16 u17 u18 u19 u20 u21 u22 u23 u24 u25 u26 u27 u28 u29 u30 u31 u32 u33 u34 u35 u36 u37 u38 u39 u40 u41 u42 u43 u44 u45 u46 u47 u48 u49 u50 u51 u52 u53 u54 u55 u56 u57 u58 u59 u60 u61 u62 u63 u64 u65 u66 u67 u68 u69 u70 u71 u72 u73 u74 u75 u76 u77 u78 u79 u80 u81 u82 u83 u84 u85 u86 u87 u88 u89 u90 u91 u92 u93 u94 u95 u96 u97 u98 u99 u100 u101 u102 u103 u104 u105 u106 u107 u108 u109 u110 u111 u112 u113 u114 u115 u116 u117 u118 u119 u120 u121 u122 u123 u124 u125 u126 u127 u128 u129 u130 u131 u132 u133 u134 u135 u136 u137 : Value) {wr : World} (h2 : r2 = 0) (h3 : r3 = 0) (hM : PMem w w.heap.size vO r1 rule word inn tgt col wr) : DpEnd w r1 r2 r3 { tmps := #[.string a0, u1, u2, .pointer (some ⟨w.heap.size, 0, none⟩), vO, .pointer (some ⟨w.heap.size + 1, 0, none⟩), .pointer (some ⟨w.heap.size + 2, 0, none⟩), .pointer (some ⟨w.heap.size + 3, 0, none⟩), .pointer (some ⟨w.heap.size + 4, 0, none⟩), .pointer (some ⟨w.heap.size + 5, 0, none⟩), .func (.func 27) #[] #[.pointer (some ⟨w.heap.size + 3, 0, none⟩), .pointer (some ⟨w.heap.size + 5, 0, none⟩), .pointer (some ⟨w.heap.size + 1, 0, none⟩), .pointer (some ⟨w.heap.size + 2, 0, none⟩), .pointer (some ⟨w.heap.size + 4, 0, none⟩)], .func (.func 28) #[] #[], .int .i64 i, u13, u14, u15, u16, u17, u18, u19, u20, u21, u22, u23, u24, u25, u26, u27, u28, u29, u30, u31, u32, u33, u34, u35, u36, u37, u38, u39, u40, u41, u42, u43, u44, u45, u46, u47, u48, u49, u50, u51, u52, u53, u54, u55, u56, u57, u58, u59, u60, u61, u62, u63, u64, u65, u66, u67, u68, u69, u70, u71, u72, u73, u74, u75, u76, u77, u78, u79, u80, u81, u82, u83, u84, u85, u86, u87, u88, u89, u90, u91, u92, u93, u94, u95, u96, u97, u98, u99, u100, u101, u102, u103, u104, u105, u106, u107, u108, u109, u110, u111, u112, u113, u114, u115, u116, u117, u118, u119, u120, u121, u122, u123, u124, u125, u126, u127, u128, u129, u130, u131, u132, u133, u134, u135, u136, u137], defers := [] } wr
set_option maxRecDepth 100000 in
theorem DpEnd.elim {w : World} {r1 : List S32} {r2 r3 : Int} {a : Act} {wr : World} {C : Act → Prop} (h : DpEnd w r1 r2 r3 a wr)
    (hc : ∀ (rule : S32) (word : ByteArray) (inn tgt col : Bool) (i : Int) (a0 : ByteArray) (vO u1 u2 u13 u14 u15 u16 u17 u18 u19 u20 u21 u22 u23 u24 u25 u26 u27 u28 u29 u30 u31 u32 u33 u34 u35 u36 u37 u38 u39 u40 u41 u42 u43 u44 u45 u46 u47 u48 u49 u50 u51 u52 u53 u54 u55 u56 u57 u58 u59 u60 u61 u62 u63 u64 u65 u66 u67 u68 u69 u70 u71 u72 u73 u74 u75 u76 u77 u78 u79 u80 u81 u82 u83 u84 u85 u86 u87 u88 u89 u90 u91 u92 u93 u94 u95 u96 u97 u98 u99 u100 u101 u102 u103 u104 u105 u106 u107 u108 u109 u110 u111 u112 u113 u114 u115 u116 u117 u118 u119 u120 u121 u122 u123 u124 u125 u126 u127 u128 u129 u130 u131 u132 u133 u134 u135 u136 u137 : Value), r2 = 0 → r3 = 0 → PMem w w.heap.size vO r1 rule word inn tgt col wr → C { tmps := #[.string a0, u1, u2, .pointer (some ⟨w.heap.size, 0, none⟩), vO, .pointer (some ⟨w.heap.size + 1, 0, none⟩), .pointer (some ⟨w.heap.size + 2, 0, none⟩), .pointer (some ⟨w.heap.size + 3, 0, none⟩), .pointer (some ⟨w.heap.size + 4, 0, none⟩), .pointer (some ⟨w.heap.size + 5, 0, none⟩), .func (.func 27) #[] #[.pointer (some ⟨w.heap.size + 3, 0, none⟩), .pointer (some ⟨w.heap.size + 5, 0, none⟩), .pointer (some ⟨w.heap.size + 1, 0, none⟩), .pointer (some ⟨w.heap.size + 2, 0, none⟩), .pointer (some ⟨w.heap.size + 4, 0, none⟩)], .func (.func 28) #[] #[], .int .i64 i, u13, u14, u15, u16, u17, u18, u19, u20, u21, u22, u23, u24, u25, u26, u27, u28, u29, u30, u31, u32, u33, u34, u35, u36, u37, u38, u39, u40, u41, u42, u43, u44, u45, u46, u47, u48, u49, u50, u51, u52, u53, u54, u55, u56, u57, u58, u59, u60, u61, u62, u63, u64, u65, u66, u67, u68, u69, u70, u71, u72, u73, u74, u75, u76, u77, u78, u79, u80, u81, u82, u83, u84, u85, u86, u87, u88, u89, u90, u91, u92, u93, u94, u95, u96, u97, u98, u99, u100, u101, u102, u103, u104, u105, u106, u107, u108, u109, u110, u111, u112, u113, u114, u115, u116, u117, u118, u119, u120, u121, u122, u123, u124, u125, u126, u127, u128, u129, u130, u131, u132, u133, u134, u135, u136, u137], defers := [] }) : C a := by
  cases h with
  | mk' rule word inn tgt col i a0 vO u1 u2 u13 u14 u15 u16 u17 u18 u19 u20 u21 u22 u23 u24 u25 u26 u27 u28 u29 u30 u31 u32 u33 u34 u35 u36 u37 u38 u39 u40 u41 u42 u43 u44 u45 u46 u47 u48 u49 u50 u51 u52 u53 u54 u55 u56 u57 u58 u59 u60 u61 u62 u63 u64 u65 u66 u67 u68 u69 u70 u71 u72 u73 u74 u75 u76 u77 u78 u79 u80 u81 u82 u83 u84 u85 u86 u87 u88 u89 u90 u91 u92 u93 u94 u95 u96 u97 u98 u99 u100 u101 u102 u103 u104 u105 u106 u107 u108 u109 u110 u111 u112 u113 u114 u115 u116 u117 u118 u119 u120 u121 u122 u123 u124 u125 u126 u127 u128 u129 u130 u131 u132 u133 u134 u135 u136 u137 h2 h3 hM => exact hc rule word inn tgt col i a0 vO u1 u2 u13 u14 u15 u16 u17 u18 u19 u20 u21 u22 u23 u24 u25 u26 u27 u28 u29 u30 u31 u32 u33 u34 u35 u36 u37 u38 u39 u40 u41 u42 u43 u44 u45 u46 u47 u48 u49 u50 u51 u52 u53 u54 u55 u56 u57 u58 u59 u60 u61 u62 u63 u64 u65 u66 u67 u68 u69 u70 u71 u72 u73 u74 u75 u76 u77 u78 u79 u80 u81 u82 u83 u84 u85 u86 u87 u88 u89 u90 u91 u92 u93 u94 u95 u96 u97 u98 u99 u100 u101 u102 u103 u104 u105 u106 u107 u108 u109 u110 u111 u112 u113 u114 u115 u116 u117 u118 u119 u120 u121 u122 u123 u124 u125 u126 u127 u128 u129 u130 u131 u132 u133 u134 u135 u136 u137 h2 h3 hM
end Go.Proofs.Ytahdgaaedilcmaa.P
