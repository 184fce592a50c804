/- Folded: GParseA, GParseCA, GParseCB, GParseCC, GParseZ, GParseR, GParse. -/
import Derived.Test.YtahdgaaedilcmaaGMem
import Derived.WalkMore
import Derived.BigQuiet
/- depfile.Parse: the machine's walk. -/
namespace Go.Proofs.Ytahdgaaedilcmaa.P
open Go.RowKit Go.Proofs.YtahdgaaedilcmaaW.PrintWords Go.Proofs.YtahdgaaedilcmaaW.PrintLast Go.Proofs.YtahdgaaedilcmaaW.PrintMore
set_option linter.unusedVariables false
set_option linter.unusedSimpArgs false

def oneB (c : Int) : ByteArray := strOfNums [c]
/-- the loop: a byte, or two, a round -/
def depfile_Parse.l0 : Nat → ByteArray → List S32 → S32 → ByteArray → Bool → Bool → Bool → Int → Option (List S32 × Int × Int)
  | 0, _, _, _, _, _, _, _, _ => none
  | k + 1, a0, out, rule, word, inn, tgt, col, i =>
    if 0 ≤ i ∧ i ≤ 32770 ∧ out.length < 100000 ∧ rule.f1.length < 100000 ∧ word.size < 100000 then
      if i ≤ (a0.size : Int) then
        if i = (a0.size : Int) ∨ bt a0 i = 10 then
          if closeTgt inn tgt col = true then
            if col = false then some ([], 6, i)
            else depfile_Parse.l0 k a0 (out ++ [closeRule rule word inn col]) z32 ⟨#[]⟩ false false false (i + 1)
          else depfile_Parse.l0 k a0 out z32 ⟨#[]⟩ false false false (i + 1)
        else if bt a0 i < 32 then some ([], 6, i)
        else if bt a0 i = 32 then depfile_Parse.l0 k a0 out (closeRule rule word inn col) ⟨#[]⟩ false (closeTgt inn tgt col) col (i + 1)
        else if bt a0 i = 58 then
          if closeTgt inn tgt col = false ∨ col = true then some ([], 6, i)
          else depfile_Parse.l0 k a0 out (closeRule rule word inn col) ⟨#[]⟩ false (closeTgt inn tgt col) true (i + 1)
        else if bt a0 i = 92 then
          if i + 1 = (a0.size : Int) ∨ escI (bt a0 (i + 1)) = false then some ([], 6, i)
          else if bt a0 (i + 1) = 10 then depfile_Parse.l0 k a0 out (closeRule rule word inn col) ⟨#[]⟩ false (closeTgt inn tgt col) col (i + 1 + 1)
          else if inn = false ∧ tgt = true ∧ col = false then some ([], 6, i)
          else depfile_Parse.l0 k a0 out rule (word ++ oneB (bt a0 (i + 1))) true tgt col (i + 1 + 1)
        else if inn = false ∧ tgt = true ∧ col = false then some ([], 6, i)
        else depfile_Parse.l0 k a0 out rule (word ++ oneB (bt a0 i)) true tgt col (i + 1)
      else some (out, 0, 0)
    else none
def depfile_Parse.f (k : Nat) (a0 : ByteArray) : Option (List S32 × Int × Int) :=
  if (32768 : Int) < (a0.size : Int) then some ([], 3, 32768) else depfile_Parse.l0 k a0 [] z32 ⟨#[]⟩ false false false 0
theorem depfile_Parse.mono_l0 : ∀ (k : Nat) (a0 : ByteArray) (out : List S32) (rule : S32) (word : ByteArray) (inn tgt col : Bool) (i : Int), LeO (depfile_Parse.l0 k a0 out rule word inn tgt col i) (depfile_Parse.l0 (k + 1) a0 out rule word inn tgt col i) := by
  intro k
  induction k with
  | zero => intros; exact LeO.none _
  | succ k ih =>
    intro a0 out rule word inn tgt col i
    rw [depfile_Parse.l0, depfile_Parse.l0.eq_def (k + 1 + 1)]
    repeat' (first | exact LeO.refl _ | exact ih _ _ _ _ _ _ _ _ | apply LeO.ite)
theorem depfile_Parse.mono (k : Nat) (a0 : ByteArray) : LeO (depfile_Parse.f k a0) (depfile_Parse.f (k + 1) a0) := LeO.ite (LeO.refl _) (depfile_Parse.mono_l0 _ _ _ _ _ _ _ _ _)

theorem info26s : (Try.prog.info? 26).map (·.size) = some 2 := by kernel_rfl
section
variable {w0 : World} {B : Nat} {vO : Value} {out : List S32} {rule : S32} {word : ByteArray} {inn tgt col : Bool} {w : World}
/-- what the walk reads of memory -/
theorem PMem.cells (h : PMem w0 B vO out rule word inn tgt col w) :
    w.cell? ⟨B + 3, 0, none⟩ = some (.bool inn) ∧ w.cell? ⟨B + 4, 0, none⟩ = some (.bool tgt) ∧ w.cell? ⟨B + 5, 0, none⟩ = some (.bool col) ∧ w.cell? ⟨B + 2, 0, none⟩ = some (.string word) ∧
    w.cell? ⟨B, 0, none⟩ = some (.int .i64 0) ∧ w.cell? ⟨B, 1, none⟩ = some (.int .i64 0) ∧ w.frozen? ⟨B, 0, none⟩ = false ∧ w.frozen? ⟨B, 1, none⟩ = false ∧
    w.frozen? ⟨B + 2, 0, none⟩ = false ∧ w.frozen? ⟨B + 3, 0, none⟩ = false ∧ w.frozen? ⟨B + 4, 0, none⟩ = false ∧ w.frozen? ⟨B + 5, 0, none⟩ = false ∧
    w.frozen? ⟨B + 1, 0, none⟩ = false ∧ w.frozen? ⟨B + 1, 1, none⟩ = false ∧ w.cell? ⟨B + 1, 0, none⟩ = some (.string rule.f0) ∧ ∃ A n c, w.cell? ⟨B + 1, 1, none⟩ = some (.slice A n c) := by
  obtain ⟨hb, hs, h0, h2, h3, h4, h5, vD, okO, okD, h1, hO, hD, hx, hy⟩ := h
  obtain ⟨A, c, rfl⟩ := Kd.R_slice hD
  exact ⟨blk_cell h3 0, blk_cell h4 0, blk_cell h5 0, blk_cell h2 0, blk_cell h0 0, blk_cell h0 1, blk_frozen h0 0, blk_frozen h0 1, blk_frozen h2 0, blk_frozen h3 0, blk_frozen h4 0, blk_frozen h5 0, blk_frozen h1 0, blk_frozen h1 1, blk_cell h1 0, A, _, c, blk_cell h1 1⟩
theorem PMem.below_ (h : PMem w0 B vO out rule word inn tgt col w) {w1 : World} (hb1 : Below w.heap.size w w1) : PMem w0 B vO out rule word inn tgt col w1 := by
  obtain ⟨hb, hs, h0, h2, h3, h4, h5, vD, okO, okD, h1, hO, hD, hx, hy⟩ := h
  have := hb1.size
  exact ⟨below_then hb (by omega) hb1, by omega, blk_below h0 hb1, blk_below h2 hb1, blk_below h3 hb1, blk_below h4 hb1, blk_below h5 hb1, vD, okO, okD, blk_below h1 hb1, Kd.S_below hO hb1, Kd.R_below hD hb1,
    fun k hk => ⟨(hx k hk).1, by have := hx k hk; omega, (hx k hk).2.2⟩, fun k hk => ⟨(hy k hk).1, by have := hy k hk; omega⟩⟩
theorem PMem.drewN_ (h : PMem w0 B vO out rule word inn tgt col w) (n : Nat) : PMem w0 B vO out rule word inn tgt col (w.drewN n) := h.below_ (pw_below_drewN (Below.refl _ _) n)
theorem PMem.tell (h : PMem w0 B vO out rule word inn tgt col w) (e at_ : Int) :
    ((w.setCell ⟨B, 0, none⟩ (.int .i64 e)).setCell ⟨B, 1, none⟩ (.int .i64 at_)).heap[B]? = some (.cells #[.int .i64 e, .int .i64 at_] 26 (0, 0)) ∧
    Below B w0 ((w.setCell ⟨B, 0, none⟩ (.int .i64 e)).setCell ⟨B, 1, none⟩ (.int .i64 at_)) ∧
    Kd.S k32 32 ((w.setCell ⟨B, 0, none⟩ (.int .i64 e)).setCell ⟨B, 1, none⟩ (.int .i64 at_)) B (fun _ => True) vO out := by
  obtain ⟨hb, hs, h0, h2, h3, h4, h5, vD, okO, okD, h1, hO, hD, hx, hy⟩ := h
  refine ⟨blk_set (blk_set h0 0 _) 1 _, (hb.setCell (p := ⟨B, 0, none⟩) (by simp) _).setCell (p := ⟨B, 1, none⟩) (by simp) _, ?_⟩
  exact Kd.S_lower (Kd.S_mono (Kd.S_far (Kd.S_far hO (p := ⟨B, 0, none⟩) (fun k hk => by have := hx k hk; simp; omega) _) (p := ⟨B, 1, none⟩) (fun k hk => by have := hx k hk; simp; omega) _) (fun _ _ => trivial)) (by omega)
/-- a new rule -/
theorem PMem.setRule0 (h : PMem w0 B vO out rule word inn tgt col w) : PMem w0 B vO out z32 word inn tgt col ((w.setCell ⟨B + 1, 0, none⟩ (.string ⟨#[]⟩)).setCell ⟨B + 1, 1, none⟩ (.slice none 0 0)) := by
  obtain ⟨hb, hs, h0, h2, h3, h4, h5, vD, okO, okD, h1, hO, hD, hx, hy⟩ := h
  refine ⟨(hb.setCell (p := ⟨B + 1, 0, none⟩) (by simp) _).setCell (p := ⟨B + 1, 1, none⟩) (by simp) _, by simpa using hs, blk_far (blk_far h0 (by simp) _) (by simp) _, blk_far (blk_far h2 (by simp) _) (by simp) _, blk_far (blk_far h3 (by simp) _) (by simp) _,
    blk_far (blk_far h4 (by simp) _) (by simp) _, blk_far (blk_far h5 (by simp) _) (by simp) _, .slice none 0 0, okO, fun _ => False, blk_set (blk_set h1 0 _) 1 _,
    Kd.S_far (Kd.S_far hO (p := ⟨B + 1, 0, none⟩) (fun k hk => by have := hx k hk; simp; omega) _) (p := ⟨B + 1, 1, none⟩) (fun k hk => by have := hx k hk; simp; omega) _, Kd.R_nil _ _ _ _ _, fun k hk => ⟨(hx k hk).1, by simpa using (hx k hk).2.1, fun h => h⟩, fun _ h => h.elim⟩
theorem PMem.reset (h : PMem w0 B vO out rule word inn tgt col w) : PMem w0 B vO out z32 word inn false false ((((w.setCell ⟨B + 1, 0, none⟩ (.string ⟨#[]⟩)).setCell ⟨B + 1, 1, none⟩ (.slice none 0 0)).setCell ⟨B + 4, 0, none⟩ (.bool false)).setCell ⟨B + 5, 0, none⟩ (.bool false)) :=
  (h.setRule0.setTgt false).setCol false
/-- behind an append to the rules -/
theorem PMem.push {vD v1 : Value} {w1 : World} {okO okD : Nat → Prop}
    (hb : Below B w0 w) (hs : B + 6 ≤ w.heap.size) (h0 : w.heap[B]? = some (.cells #[.int .i64 0, .int .i64 0] 26 (0, 0))) (h2 : w.heap[B + 2]? = some (.cells #[.string word] 9 (0, 0)))
    (h3 : w.heap[B + 3]? = some (.cells #[.bool inn] 4 (0, 0))) (h4 : w.heap[B + 4]? = some (.cells #[.bool tgt] 4 (0, 0))) (h5 : w.heap[B + 5]? = some (.cells #[.bool col] 4 (0, 0)))
    (h1 : w.heap[B + 1]? = some (.cells #[.string rule.f0, vD] 32 (0, 0))) (hO : Kd.S k32 32 w (B + 6) okO vO out) (hD : Kd.R Kd.string 9 w (B + 6) okD vD rule.f1)
    (hx : ∀ k, okO k → B + 6 ≤ k ∧ k < w.heap.size ∧ ¬ okD k) (hy : ∀ k, okD k → B + 6 ≤ k ∧ k < w.heap.size)
    (ho : Kd.S k32 32 w1 (B + 6) (fun k => okO k ∨ okD k ∨ w.heap.size ≤ k) v1 (out ++ [rule])) (hg : w.grownBy w1 vO.ownBlock) :
    w1.heap[B + 1]? = some (.cells #[.string rule.f0, vD] 32 (0, 0)) ∧ w1.heap[B + 4]? = some (.cells #[.bool tgt] 4 (0, 0)) ∧ w1.heap[B + 5]? = some (.cells #[.bool col] 4 (0, 0)) ∧
      PMem w0 B v1 (out ++ [rule]) z32 word inn false false ((((w1.setCell ⟨B + 1, 0, none⟩ (.string ⟨#[]⟩)).setCell ⟨B + 1, 1, none⟩ (.slice none 0 0)).setCell ⟨B + 4, 0, none⟩ (.bool false)).setCell ⟨B + 5, 0, none⟩ (.bool false)) := by
  have hO1 := (Kd.S_R hO).1
  have hne : ∀ g, g < B + 6 → some g ≠ vO.ownBlock := fun g hg he => by have := hx g (hO1 g he.symm); omega
  have g0 := blk_grown h0 hg (hne _ (by omega))
  have g1 := blk_grown h1 hg (hne _ (by omega))
  have g2 := blk_grown h2 hg (hne _ (by omega))
  have g3 := blk_grown h3 hg (hne _ (by omega))
  have g4 := blk_grown h4 hg (hne _ (by omega))
  have g5 := blk_grown h5 hg (hne _ (by omega))
  have hsz := hg.size
  have hB1 := pw_below_grown hb _ (by omega) hg (fun k hk => by have := hx k (hO1 k hk); omega)
  refine ⟨g1, g4, g5, (PMem.setTgt (tgt := tgt) (col := col) ?_ false).setCol false⟩
  refine ⟨(hB1.setCell (p := ⟨B + 1, 0, none⟩) (by simp) _).setCell (p := ⟨B + 1, 1, none⟩) (by simp) _, by simp; omega, blk_far (blk_far g0 (by simp) _) (by simp) _, blk_far (blk_far g2 (by simp) _) (by simp) _, blk_far (blk_far g3 (by simp) _) (by simp) _,
    blk_far (blk_far g4 (by simp) _) (by simp) _, blk_far (blk_far g5 (by simp) _) (by simp) _, .slice none 0 0, fun k => (okO k ∨ okD k ∨ w.heap.size ≤ k) ∧ B + 6 ≤ k ∧ k < w1.heap.size, fun _ => False, blk_set (blk_set g1 0 _) 1 _,
    Kd.S_far (Kd.S_far (Kd.S_mono (Kd.S_bound ho) (fun k hk => ⟨hk.1, hk.2.1, hk.2.2.1⟩)) (p := ⟨B + 1, 0, none⟩) (fun k hk => by simp; omega) _) (p := ⟨B + 1, 1, none⟩) (fun k hk => by simp; omega) _, Kd.R_nil _ _ _ _ _, fun k hk => ⟨hk.2.1, by simpa using hk.2.2, fun h => h⟩, fun _ h => h.elim⟩
end
set_option maxHeartbeats 1000000 in
theorem wrong_calls (at_ : Int) (w : World) :
    Calls Try.prog 28 #[.int .i64 at_] w fun e w' => e = .returned (.tuple #[.slice none 0 0, .agg #[.int .i64 6, .int .i64 at_]]) ∧ Below w.heap.size w w' := by
  go_enter Try.func28, Try.ntmps28
  go_wp2
  refine bodyPost_ret (results_tc rfl _ _ w.heap.size 26 _ (0, 0) _ rfl (blk_new w _) Try.underlying26 rfl info26s) rfl ⟨rfl, ?_⟩
  exact (Below.refl _ w).alloc (Nat.le_refl _) _
/-- at the beginning: six new variables -/
theorem PMem.start (w : World) :
    PMem w w.heap.size (.slice none 0 0) [] z32 ⟨#[]⟩ false false false ((((((w.alloc (.cells #[.int .i64 0, .int .i64 0] 26)).alloc (.cells #[.string ⟨#[]⟩, .slice none 0 0] 32)).alloc (.cells #[.string ⟨#[]⟩] 9)).alloc (.cells #[.bool false] 4)).alloc (.cells #[.bool false] 4)).alloc (.cells #[.bool false] 4)) := by
  have e : ∀ (W : World) (o o' : Obj), (W.alloc o).heap.size = W.heap.size + 1 := by intros; simp
  refine ⟨?_, by simp, ?_, ?_, ?_, ?_, ?_, .slice none 0 0, fun _ => False, fun _ => False, ?_, Kd.S_nil _ _ _ _ _, Kd.R_nil _ _ _ _ _, fun _ h => h.elim, fun _ h => h.elim⟩
  · exact ((((((Below.refl _ w).alloc (Nat.le_refl _) _).alloc (by simp) _).alloc (by simp; omega) _).alloc (by simp; omega) _).alloc (by simp; omega) _).alloc (by simp; omega) _
  · exact blk_alloc (blk_alloc (blk_alloc (blk_alloc (blk_alloc (blk_new w _) _) _) _) _) _
  · have h := blk_alloc (blk_alloc (blk_alloc (blk_new ((w.alloc (.cells #[.int .i64 0, .int .i64 0] 26)).alloc (.cells #[.string ⟨#[]⟩, .slice none 0 0] 32)) (.cells #[.string ⟨#[]⟩] 9)) (.cells #[.bool false] 4)) (.cells #[.bool false] 4)) (.cells #[.bool false] 4)
    simpa only [World.size_alloc, Nat.add_assoc, Nat.reduceAdd] using h
  · have h := blk_alloc (blk_alloc (blk_new (((w.alloc (.cells #[.int .i64 0, .int .i64 0] 26)).alloc (.cells #[.string ⟨#[]⟩, .slice none 0 0] 32)).alloc (.cells #[.string ⟨#[]⟩] 9)) (.cells #[.bool false] 4)) (.cells #[.bool false] 4)) (.cells #[.bool false] 4)
    simpa only [World.size_alloc, Nat.add_assoc, Nat.reduceAdd] using h
  · have h := blk_alloc (blk_new ((((w.alloc (.cells #[.int .i64 0, .int .i64 0] 26)).alloc (.cells #[.string ⟨#[]⟩, .slice none 0 0] 32)).alloc (.cells #[.string ⟨#[]⟩] 9)).alloc (.cells #[.bool false] 4)) (.cells #[.bool false] 4)) (.cells #[.bool false] 4)
    simpa only [World.size_alloc, Nat.add_assoc, Nat.reduceAdd] using h
  · have h := blk_new (((((w.alloc (.cells #[.int .i64 0, .int .i64 0] 26)).alloc (.cells #[.string ⟨#[]⟩, .slice none 0 0] 32)).alloc (.cells #[.string ⟨#[]⟩] 9)).alloc (.cells #[.bool false] 4)).alloc (.cells #[.bool false] 4)) (.cells #[.bool false] 4)
    simpa only [World.size_alloc, Nat.add_assoc, Nat.reduceAdd] using h
  · have h := blk_alloc (blk_alloc (blk_alloc (blk_alloc (blk_new (w.alloc (.cells #[.int .i64 0, .int .i64 0] 26)) (.cells #[.string ⟨#[]⟩, .slice none 0 0] 32)) (.cells #[.string ⟨#[]⟩] 9)) (.cells #[.bool false] 4)) (.cells #[.bool false] 4)) (.cells #[.bool false] 4)
    have h' : _ = some (Obj.cells #[.string z32.f0, .slice none 0 0] 32 (0, 0)) := h
    simpa only [World.size_alloc, Nat.add_assoc, Nat.reduceAdd] using h'
/-- append(out, rule), the rule's texts handed on -/
theorem push_event {w : World} {B : Nat} {vO : Value} {out : List S32} {rule : S32} {okO okD : Nat → Prop} {A2 : Option Addr} {C2 : Nat} {ops : Array Oper} {rest : List Oper} {o : Oper} {a : Act} {Q : Exit → Act → World → Prop}
    (hgd : o.guard = none) (ho : o.op = .call { callee := .builtin .append, args := #[.tmp 51, .tmp 53], argTypes := #[23, 23] }) (hs : a.eval (.tmp 51) = vO) (hx : a.eval (.tmp 53) = .slice (some ⟨w.heap.size, 0, none⟩) 1 1)
    (hsz : B ≤ w.heap.size) (hO : Kd.S k32 32 w B okO vO out) (hD : Kd.R Kd.string 9 w B okD (.slice A2 rule.f1.length C2) rule.f1) (hxy : ∀ k, okO k → ¬ okD k) (hl : (out.length + 1) * 40 ≤ 140737488355328)
    (h : ∀ (A6 : Option Addr) (c6 : Nat) (w1 : World), Kd.S k32 32 w1 B (fun k => okO k ∨ okD k ∨ w.heap.size ≤ k) (.slice A6 (out.length + 1) c6) (out ++ [rule]) → w.grownBy w1 vO.ownBlock → wpList Try.prog ops Q rest (a.put o.dst (.slice A6 (out.length + 1) c6)) w1) :
    wpList Try.prog ops Q (o :: rest) a (w.alloc (.cells #[.string rule.f0, .slice A2 rule.f1.length C2] 32)) := by
  refine Kd.S_append k32 (w0 := w) (W := w) B hgd (.tmp 51) (.tmp 53) 23 32 (.agg #[(.string ⟨#[]⟩), (.slice none 0 0)]) 40 ho Try.underlying23 info32 rfl (by decide) (by omega) vO out rule [.string rule.f0, .slice A2 rule.f1.length C2] (fun k => okO k ∨ okD k ∨ w.heap.size ≤ k) okD hs hx
    (k32_mkM _ _ _ _ hD) (fun k hk => ⟨.inr (.inl hk), fun he => hxy k ((Kd.S_R hO).1 k he.symm) hk⟩) (fun k hk => .inr (.inr hk)) (Kd.S_mono hO (fun k hk => ⟨.inl hk, hxy k hk⟩)) (Below.refl _ _) hsz hl ?_
  intro v1 w1 ho1 hbl hg hat
  obtain ⟨A6, c6, rfl⟩ := Kd.R_slice (Kd.S_R ho1)
  rw [List.length_append, List.length_singleton] at ho1 ⊢
  exact h A6 c6 w1 ho1 hg
theorem wrap32_ {x : Int} (h0 : 0 ≤ x) (h1 : x ≤ 255) : wrap32 x = x := by unfold wrap32; omega
/-- string([]byte{c}) -/
theorem conv_one (W : World) (c : Int) (h0 : 0 ≤ c) (h1 : c ≤ 255) :
    (convert 35 9 (.slice (some ⟨W.heap.size, 0, none⟩) 1 1)).run Try.prog (W.alloc (.cells #[.int .u8 c] 5)) = .ok (.string (oneB c)) (W.alloc (.cells #[.int .u8 c] 5)) := by
  have h := own_lit W W.heap.size 5 .u8 [c] (Nat.le_refl _) (by simp)
  have h2 := own_string (P := Try.prog) (src := 35) (dst := 9) (e := 5) Try.underlying35 Try.underlying5 Try.underlying9 h
  exact h2
def firstLoop : Code → Option Code
  | .loop c => some c
  | .seq a b => match firstLoop a with
    | some c => some c
    | none => firstLoop b
  | .block _ c => firstLoop c
  | .scope c => firstLoop c
  | .cond _ a b => match firstLoop a with
    | some c => some c
    | none => firstLoop b
  | _ => none
noncomputable def dpBody : Code := (Try.f12.body.bind firstLoop).getD .skip
def DPost (r1 : List S32) (r2 r3 : Int) (w : World) (e : Ending) (w' : World) : Prop := ∃ v0_ : Value, e = .returned (.tuple #[v0_, .agg #[.int .i64 r2, .int .i64 r3]]) ∧ Kd.S k32 32 w' w.heap.size (fun _ => True) v0_ r1 ∧ Below w.heap.size w w'
theorem DPost.mk {r1 : List S32} {r2 r3 : Int} {w w' : World} {v : Value} (h : Kd.S k32 32 w' w.heap.size (fun _ => True) v r1) (hb : Below w.heap.size w w') : DPost r1 r2 r3 w (.returned (.tuple #[v, .agg #[.int .i64 r2, .int .i64 r3]])) w' := ⟨_, rfl, h, hb⟩
set_option maxRecDepth 100000 in
/-- the frame at the head of the loop -/
inductive DpSt (a0 : ByteArray) (w : World) (r1 : List S32) (r2 r3 : Int) (m : Nat) : Act → World → Prop
  | mk' (out : List S32) (rule : S32) (word : ByteArray) (inn tgt col : Bool) (i : Int) (vO u1 u2 u13 u14 u15 u16 u17 u18 u19 u20 u21 u22 u23 u24 u25 u26 u27 u28 u29 u30 u31 u32 u33 u34 u35 u36 u37 u38 u39 u40 u41 u42 u43 u44 u45 u46 u47 u48 u49 u50 u51 u52 u53 u54 u55 u56 u57 u58 u59 u60 u61 u62 u63 u64 u65 u66 u67 u68 u69 u70 u71 u72 u73 u74 u75 u76 u77 u78 u79 u80 u81 u82 u83 u84 u85 u86 u87 u88 u89 u90 u91 u92 u93 u94 u95 u96 u97 u98 u99 u100 u101 u102 u103 u104 u105 u106 u107 u108 u109 u110 u111 u112 u113 u114 u115 u116 u117 u118 u119 u120 u121 u122 u123 u124 u125 u126 u127 u128 u129 u130 u131 u132 u133 u134 u135 u136 u137 : Value) {wr : World} (H : depfile_Parse.l0 m a0 out rule word inn tgt col i = some (r1, r2, r3)) (hM : PMem w w.heap.size vO out rule word inn tgt col wr) :
      DpSt a0 w r1 r2 r3 m { tmps := #[.string a0, u1, u2, .pointer (some ⟨w.heap.size, 0, none⟩), vO, .pointer (some ⟨w.heap.size + 1, 0, none⟩), .pointer (some ⟨w.heap.size + 2, 0, none⟩), .pointer (some ⟨w.heap.size + 3, 0, none⟩), .pointer (some ⟨w.heap.size + 4, 0, none⟩), .pointer (some ⟨w.heap.size + 5, 0, none⟩), .func (.func 27) #[] #[.pointer (some ⟨w.heap.size + 3, 0, none⟩), .pointer (some ⟨w.heap.size + 5, 0, none⟩), .pointer (some ⟨w.heap.size + 1, 0, none⟩), .pointer (some ⟨w.heap.size + 2, 0, none⟩), .pointer (some ⟨w.heap.size + 4, 0, none⟩)], .func (.func 28) #[] #[], .int .i64 i, u13, u14, u15, u16, u17, u18, u19, u20, u21, u22, u23, u24, u25, u26, u27, u28, u29, u30, u31, u32, u33, u34, u35, u36, u37, u38, u39, u40, u41, u42, u43, u44, u45, u46, u47, u48, u49, u50, u51, u52, u53, u54, u55, u56, u57, u58, u59, u60, u61, u62, u63, u64, u65, u66, u67, u68, u69, u70, u71, u72, u73, u74, u75, u76, u77, u78, u79, u80, u81, u82, u83, u84, u85, u86, u87, u88, u89, u90, u91, u92, u93, u94, u95, u96, u97, u98, u99, u100, u101, u102, u103, u104, u105, u106, u107, u108, u109, u110, u111, u112, u113, u114, u115, u116, u117, u118, u119, u120, u121, u122, u123, u124, u125, u126, u127, u128, u129, u130, u131, u132, u133, u134, u135, u136, u137], defers := [] } wr
set_option maxRecDepth 100000 in
theorem DpSt.elim {a0 : ByteArray} {w : World} {r1 : List S32} {r2 r3 : Int} {m : Nat} {a : Act} {wr : World} {C : Act → Prop} (h : DpSt a0 w r1 r2 r3 m a wr)
    (hc : ∀ (out : List S32) (rule : S32) (word : ByteArray) (inn tgt col : Bool) (i : Int) (vO u1 u2 u13 u14 u15 u16 u17 u18 u19 u20 u21 u22 u23 u24 u25 u26 u27 u28 u29 u30 u31 u32 u33 u34 u35 u36 u37 u38 u39 u40 u41 u42 u43 u44 u45 u46 u47 u48 u49 u50 u51 u52 u53 u54 u55 u56 u57 u58 u59 u60 u61 u62 u63 u64 u65 u66 u67 u68 u69 u70 u71 u72 u73 u74 u75 u76 u77 u78 u79 u80 u81 u82 u83 u84 u85 u86 u87 u88 u89 u90 u91 u92 u93 u94 u95 u96 u97 u98 u99 u100 u101 u102 u103 u104 u105 u106 u107 u108 u109 u110 u111 u112 u113 u114 u115 u116 u117 u118 u119 u120 u121 u122 u123 u124 u125 u126 u127 u128 u129 u130 u131 u132 u133 u134 u135 u136 u137 : Value), depfile_Parse.l0 m a0 out rule word inn tgt col i = some (r1, r2, r3) → PMem w w.heap.size vO out rule word inn tgt col wr → C { tmps := #[.string a0, u1, u2, .pointer (some ⟨w.heap.size, 0, none⟩), vO, .pointer (some ⟨w.heap.size + 1, 0, none⟩), .pointer (some ⟨w.heap.size + 2, 0, none⟩), .pointer (some ⟨w.heap.size + 3, 0, none⟩), .pointer (some ⟨w.heap.size + 4, 0, none⟩), .pointer (some ⟨w.heap.size + 5, 0, none⟩), .func (.func 27) #[] #[.pointer (some ⟨w.heap.size + 3, 0, none⟩), .pointer (some ⟨w.heap.size + 5, 0, none⟩), .pointer (some ⟨w.heap.size + 1, 0, none⟩), .pointer (some ⟨w.heap.size + 2, 0, none⟩), .pointer (some ⟨w.heap.size + 4, 0, none⟩)], .func (.func 28) #[] #[], .int .i64 i, u13, u14, u15, u16, u17, u18, u19, u20, u21, u22, u23, u24, u25, u26, u27, u28, u29, u30, u31, u32, u33, u34, u35, u36, u37, u38, u39, u40, u41, u42, u43, u44, u45, u46, u47, u48, u49, u50, u51, u52, u53, u54, u55, u56, u57, u58, u59, u60, u61, u62, u63, u64, u65, u66, u67, u68, u69, u70, u71, u72, u73, u74, u75, u76, u77, u78, u79, u80, u81, u82, u83, u84, u85, u86, u87, u88, u89, u90, u91, u92, u93, u94, u95, u96, u97, u98, u99, u100, u101, u102, u103, u104, u105, u106, u107, u108, u109, u110, u111, u112, u113, u114, u115, u116, u117, u118, u119, u120, u121, u122, u123, u124, u125, u126, u127, u128, u129, u130, u131, u132, u133, u134, u135, u136, u137], defers := [] }) : C a := by
  cases h with
  | mk' out rule word inn tgt col i vO u1 u2 u13 u14 u15 u16 u17 u18 u19 u20 u21 u22 u23 u24 u25 u26 u27 u28 u29 u30 u31 u32 u33 u34 u35 u36 u37 u38 u39 u40 u41 u42 u43 u44 u45 u46 u47 u48 u49 u50 u51 u52 u53 u54 u55 u56 u57 u58 u59 u60 u61 u62 u63 u64 u65 u66 u67 u68 u69 u70 u71 u72 u73 u74 u75 u76 u77 u78 u79 u80 u81 u82 u83 u84 u85 u86 u87 u88 u89 u90 u91 u92 u93 u94 u95 u96 u97 u98 u99 u100 u101 u102 u103 u104 u105 u106 u107 u108 u109 u110 u111 u112 u113 u114 u115 u116 u117 u118 u119 u120 u121 u122 u123 u124 u125 u126 u127 u128 u129 u130 u131 u132 u133 u134 u135 u136 u137 H hM => exact hc out rule word inn tgt col i vO u1 u2 u13 u14 u15 u16 u17 u18 u19 u20 u21 u22 u23 u24 u25 u26 u27 u28 u29 u30 u31 u32 u33 u34 u35 u36 u37 u38 u39 u40 u41 u42 u43 u44 u45 u46 u47 u48 u49 u50 u51 u52 u53 u54 u55 u56 u57 u58 u59 u60 u61 u62 u63 u64 u65 u66 u67 u68 u69 u70 u71 u72 u73 u74 u75 u76 u77 u78 u79 u80 u81 u82 u83 u84 u85 u86 u87 u88 u89 u90 u91 u92 u93 u94 u95 u96 u97 u98 u99 u100 u101 u102 u103 u104 u105 u106 u107 u108 u109 u110 u111 u112 u113 u114 u115 u116 u117 u118 u119 u120 u121 u122 u123 u124 u125 u126 u127 u128 u129 u130 u131 u132 u133 u134 u135 u136 u137 H hM
set_option maxRecDepth 100000 in
/-- the frame behind the loop -/
inductive DpEnd (w : World) (r1 : List S32) (r2 r3 : Int) : Act → World → Prop
  | mk' (rule : S32) (word : ByteArray) (inn tgt col : Bool) (i : Int) (a0 : ByteArray) (vO u1 u2 u13 u14 u15 u16 u17 u18 u19 u20 u21 u22 u23 u24 u25 u26 u27 u28 u29 u30 u31 u32 u33 u34 u35 u36 u37 u38 u39 u40 u41 u42 u43 u44 u45 u46 u47 u48 u49 u50 u51 u52 u53 u54 u55 u56 u57 u58 u59 u60 u61 u62 u63 u64 u65 u66 u67 u68 u69 u70 u71 u72 u73 u74 u75 u76 u77 u78 u79 u80 u81 u82 u83 u84 u85 u86 u87 u88 u89 u90 u91 u92 u93 u94 u95 u96 u97 u98 u99 u100 u101 u102 u103 u104 u105 u106 u107 u108 u109 u110 u111 u112 u113 u114 u115 u116 u117 u118 u119 u120 u121 u122 u123 u124 u125 u126 u127 u128 u129 u130 u131 u132 u133 u134 u135 u136 u137 : Value) {wr : World} (h2 : r2 = 0) (h3 : r3 = 0) (hM : PMem w w.heap.size vO r1 rule word inn tgt col wr) : DpEnd w r1 r2 r3 { tmps := #[.string a0, u1, u2, .pointer (some ⟨w.heap.size, 0, none⟩), vO, .pointer (some ⟨w.heap.size + 1, 0, none⟩), .pointer (some ⟨w.heap.size + 2, 0, none⟩), .pointer (some ⟨w.heap.size + 3, 0, none⟩), .pointer (some ⟨w.heap.size + 4, 0, none⟩), .pointer (some ⟨w.heap.size + 5, 0, none⟩), .func (.func 27) #[] #[.pointer (some ⟨w.heap.size + 3, 0, none⟩), .pointer (some ⟨w.heap.size + 5, 0, none⟩), .pointer (some ⟨w.heap.size + 1, 0, none⟩), .pointer (some ⟨w.heap.size + 2, 0, none⟩), .pointer (some ⟨w.heap.size + 4, 0, none⟩)], .func (.func 28) #[] #[], .int .i64 i, u13, u14, u15, u16, u17, u18, u19, u20, u21, u22, u23, u24, u25, u26, u27, u28, u29, u30, u31, u32, u33, u34, u35, u36, u37, u38, u39, u40, u41, u42, u43, u44, u45, u46, u47, u48, u49, u50, u51, u52, u53, u54, u55, u56, u57, u58, u59, u60, u61, u62, u63, u64, u65, u66, u67, u68, u69, u70, u71, u72, u73, u74, u75, u76, u77, u78, u79, u80, u81, u82, u83, u84, u85, u86, u87, u88, u89, u90, u91, u92, u93, u94, u95, u96, u97, u98, u99, u100, u101, u102, u103, u104, u105, u106, u107, u108, u109, u110, u111, u112, u113, u114, u115, u116, u117, u118, u119, u120, u121, u122, u123, u124, u125, u126, u127, u128, u129, u130, u131, u132, u133, u134, u135, u136, u137], defers := [] } wr
set_option maxRecDepth 100000 in
theorem DpEnd.elim {w : World} {r1 : List S32} {r2 r3 : Int} {a : Act} {wr : World} {C : Act → Prop} (h : DpEnd w r1 r2 r3 a wr)
    (hc : ∀ (rule : S32) (word : ByteArray) (inn tgt col : Bool) (i : Int) (a0 : ByteArray) (vO u1 u2 u13 u14 u15 u16 u17 u18 u19 u20 u21 u22 u23 u24 u25 u26 u27 u28 u29 u30 u31 u32 u33 u34 u35 u36 u37 u38 u39 u40 u41 u42 u43 u44 u45 u46 u47 u48 u49 u50 u51 u52 u53 u54 u55 u56 u57 u58 u59 u60 u61 u62 u63 u64 u65 u66 u67 u68 u69 u70 u71 u72 u73 u74 u75 u76 u77 u78 u79 u80 u81 u82 u83 u84 u85 u86 u87 u88 u89 u90 u91 u92 u93 u94 u95 u96 u97 u98 u99 u100 u101 u102 u103 u104 u105 u106 u107 u108 u109 u110 u111 u112 u113 u114 u115 u116 u117 u118 u119 u120 u121 u122 u123 u124 u125 u126 u127 u128 u129 u130 u131 u132 u133 u134 u135 u136 u137 : Value), r2 = 0 → r3 = 0 → PMem w w.heap.size vO r1 rule word inn tgt col wr → C { tmps := #[.string a0, u1, u2, .pointer (some ⟨w.heap.size, 0, none⟩), vO, .pointer (some ⟨w.heap.size + 1, 0, none⟩), .pointer (some ⟨w.heap.size + 2, 0, none⟩), .pointer (some ⟨w.heap.size + 3, 0, none⟩), .pointer (some ⟨w.heap.size + 4, 0, none⟩), .pointer (some ⟨w.heap.size + 5, 0, none⟩), .func (.func 27) #[] #[.pointer (some ⟨w.heap.size + 3, 0, none⟩), .pointer (some ⟨w.heap.size + 5, 0, none⟩), .pointer (some ⟨w.heap.size + 1, 0, none⟩), .pointer (some ⟨w.heap.size + 2, 0, none⟩), .pointer (some ⟨w.heap.size + 4, 0, none⟩)], .func (.func 28) #[] #[], .int .i64 i, u13, u14, u15, u16, u17, u18, u19, u20, u21, u22, u23, u24, u25, u26, u27, u28, u29, u30, u31, u32, u33, u34, u35, u36, u37, u38, u39, u40, u41, u42, u43, u44, u45, u46, u47, u48, u49, u50, u51, u52, u53, u54, u55, u56, u57, u58, u59, u60, u61, u62, u63, u64, u65, u66, u67, u68, u69, u70, u71, u72, u73, u74, u75, u76, u77, u78, u79, u80, u81, u82, u83, u84, u85, u86, u87, u88, u89, u90, u91, u92, u93, u94, u95, u96, u97, u98, u99, u100, u101, u102, u103, u104, u105, u106, u107, u108, u109, u110, u111, u112, u113, u114, u115, u116, u117, u118, u119, u120, u121, u122, u123, u124, u125, u126, u127, u128, u129, u130, u131, u132, u133, u134, u135, u136, u137], defers := [] }) : C a := by
  cases h with
  | mk' rule word inn tgt col i a0 vO u1 u2 u13 u14 u15 u16 u17 u18 u19 u20 u21 u22 u23 u24 u25 u26 u27 u28 u29 u30 u31 u32 u33 u34 u35 u36 u37 u38 u39 u40 u41 u42 u43 u44 u45 u46 u47 u48 u49 u50 u51 u52 u53 u54 u55 u56 u57 u58 u59 u60 u61 u62 u63 u64 u65 u66 u67 u68 u69 u70 u71 u72 u73 u74 u75 u76 u77 u78 u79 u80 u81 u82 u83 u84 u85 u86 u87 u88 u89 u90 u91 u92 u93 u94 u95 u96 u97 u98 u99 u100 u101 u102 u103 u104 u105 u106 u107 u108 u109 u110 u111 u112 u113 u114 u115 u116 u117 u118 u119 u120 u121 u122 u123 u124 u125 u126 u127 u128 u129 u130 u131 u132 u133 u134 u135 u136 u137 h2 h3 hM => exact hc rule word inn tgt col i a0 vO u1 u2 u13 u14 u15 u16 u17 u18 u19 u20 u21 u22 u23 u24 u25 u26 u27 u28 u29 u30 u31 u32 u33 u34 u35 u36 u37 u38 u39 u40 u41 u42 u43 u44 u45 u46 u47 u48 u49 u50 u51 u52 u53 u54 u55 u56 u57 u58 u59 u60 u61 u62 u63 u64 u65 u66 u67 u68 u69 u70 u71 u72 u73 u74 u75 u76 u77 u78 u79 u80 u81 u82 u83 u84 u85 u86 u87 u88 u89 u90 u91 u92 u93 u94 u95 u96 u97 u98 u99 u100 u101 u102 u103 u104 u105 u106 u107 u108 u109 u110 u111 u112 u113 u114 u115 u116 u117 u118 u119 u120 u121 u122 u123 u124 u125 u126 u127 u128 u129 u130 u131 u132 u133 u134 u135 u136 u137 h2 h3 hM
end Go.Proofs.Ytahdgaaedilcmaa.P
/- depfile.Parse: cases of a round. -/
namespace Go.Proofs.Ytahdgaaedilcmaa.P
open Go.RowKit Go.Proofs.YtahdgaaedilcmaaW.PrintWords Go.Proofs.YtahdgaaedilcmaaW.PrintLast Go.Proofs.YtahdgaaedilcmaaW.PrintMore
set_option linter.unusedVariables false
set_option linter.unusedSimpArgs false
set_option maxHeartbeats 4000000 in
set_option maxRecDepth 1000000 in
theorem dp_AEw (a0 : ByteArray) (out : List S32) (rule : S32) (word : ByteArray) (inn tgt : Bool) (i : Int) (vO u1 u2 u13 u14 u15 u16 u17 u18 u19 u20 u21 u22 u23 u24 u25 u26 u27 u28 u29 u30 u31 u32 u33 u34 u35 u36 u37 u38 u39 u40 u41 u42 u43 u44 u45 u46 u47 u48 u49 u50 u51 u52 u53 u54 u55 u56 u57 u58 u59 u60 u61 u62 u63 u64 u65 u66 u67 u68 u69 u70 u71 u72 u73 u74 u75 u76 u77 u78 u79 u80 u81 u82 u83 u84 u85 u86 u87 u88 u89 u90 u91 u92 u93 u94 u95 u96 u97 u98 u99 u100 u101 u102 u103 u104 u105 u106 u107 u108 u109 u110 u111 u112 u113 u114 u115 u116 u117 u118 u119 u120 u121 u122 u123 u124 u125 u126 u127 u128 u129 u130 u131 u132 u133 u134 u135 u136 u137 : Value) (m : Nat) (r1 : List S32) (r2 r3 : Int) (w wr : World) (K : Act → World → Prop) (Q : Exit → Act → World → Prop)
    (hM : PMem w w.heap.size vO out rule word inn tgt false wr) (b1 : 0 ≤ i) (b2 : i ≤ 32770) (b3 : out.length < 100000) (b4 : rule.f1.length < 100000) (b5 : word.size < 100000)
    (hK : ∀ a' w', DpSt a0 w r1 r2 r3 m a' w' → K a' w') (hret : ∀ a' w', bodyPost Try.prog Try.f12 (DPost r1 r2 r3 w) .ret a' w' → Q .ret a' w')
    (c1 : i ≤ (a0.size : Int)) (c2 : (i == (a0.size : Int)) = true) (ct : closeTgt inn tgt false = true)
    (h : some ([], 6, i) = some (r1, r2, r3)) :
    Code.wp Try.prog dpBody (Exit.then K Q) { tmps := #[.string a0, u1, u2, .pointer (some ⟨w.heap.size, 0, none⟩), vO, .pointer (some ⟨w.heap.size + 1, 0, none⟩), .pointer (some ⟨w.heap.size + 2, 0, none⟩), .pointer (some ⟨w.heap.size + 3, 0, none⟩), .pointer (some ⟨w.heap.size + 4, 0, none⟩), .pointer (some ⟨w.heap.size + 5, 0, none⟩), .func (.func 27) #[] #[.pointer (some ⟨w.heap.size + 3, 0, none⟩), .pointer (some ⟨w.heap.size + 5, 0, none⟩), .pointer (some ⟨w.heap.size + 1, 0, none⟩), .pointer (some ⟨w.heap.size + 2, 0, none⟩), .pointer (some ⟨w.heap.size + 4, 0, none⟩)], .func (.func 28) #[] #[], .int .i64 i, u13, u14, u15, u16, u17, u18, u19, u20, u21, u22, u23, u24, u25, u26, u27, u28, u29, u30, u31, u32, u33, u34, u35, u36, u37, u38, u39, u40, u41, u42, u43, u44, u45, u46, u47, u48, u49, u50, u51, u52, u53, u54, u55, u56, u57, u58, u59, u60, u61, u62, u63, u64, u65, u66, u67, u68, u69, u70, u71, u72, u73, u74, u75, u76, u77, u78, u79, u80, u81, u82, u83, u84, u85, u86, u87, u88, u89, u90, u91, u92, u93, u94, u95, u96, u97, u98, u99, u100, u101, u102, u103, u104, u105, u106, u107, u108, u109, u110, u111, u112, u113, u114, u115, u116, u117, u118, u119, u120, u121, u122, u123, u124, u125, u126, u127, u128, u129, u130, u131, u132, u133, u134, u135, u136, u137], defers := [] } wr := by
  obtain ⟨k3, k4, k5, k2, k0, k0b, f0, f0b, f2, f3, f4, f5, f1, f1b, k1, A1, n1, C1, k1b⟩ := hM.cells
  have c1b : decide (i ≤ (a0.size : Int)) = true := decide_eq_true c1
  injection h with h
  injection h with e1 h
  injection h with e2 e3
  subst e1 e2 e3
  clear hK
  conv => arg 2; whnf
  go_wp2_with (first | (go_at_call 27; refine (close_calls (by first | exact hM | exact hM.drewN_ _) (by omega)).mono ?_; rintro e w2 ⟨rfl, hM2⟩; rw [ct] at hM2; obtain ⟨q3, q4, q5, q2, q0, q0b, g0, g0b, g2, g3, g4, g5, g1, g1b, q1, A2, n2, C2, q1b⟩ := hM2.cells) | (go_at_call 28; refine (wrong_calls _ _).mono ?_; rintro e w4 ⟨rfl, hb4⟩; have hM4 := PMem.below_ hM2 hb4; obtain ⟨r3, r4, r5, r2_, r0, r0b, s0, s0b, s2, s3, s4, s5, s1, s1b, p1, A4, n4, C4, p1b⟩ := hM4.cells) | go_in)
  all_goals (try dsimp +zetaDelta only [Exit.then, Exit.noGoto, Exit.inBlock])
  first | exact (bodyPost_ret (results_tc rfl _ _ w.heap.size 26 _ (0, 0) _ rfl (PMem.tell hM4 _ _).1 Try.underlying26 rfl info26s) rfl (DPost.mk (Kd.S_nil _ _ _ _ _) (PMem.tell hM4 _ _).2.1)) | exact hret _ _ (bodyPost_ret (results_tc rfl _ _ w.heap.size 26 _ (0, 0) _ rfl (PMem.tell hM4 _ _).1 Try.underlying26 rfl info26s) rfl (DPost.mk (Kd.S_nil _ _ _ _ _) (PMem.tell hM4 _ _).2.1))
set_option maxHeartbeats 4000000 in
set_option maxRecDepth 1000000 in
theorem dp_AEp (a0 : ByteArray) (out : List S32) (rule : S32) (word : ByteArray) (inn tgt : Bool) (i : Int) (vO u1 u2 u13 u14 u15 u16 u17 u18 u19 u20 u21 u22 u23 u24 u25 u26 u27 u28 u29 u30 u31 u32 u33 u34 u35 u36 u37 u38 u39 u40 u41 u42 u43 u44 u45 u46 u47 u48 u49 u50 u51 u52 u53 u54 u55 u56 u57 u58 u59 u60 u61 u62 u63 u64 u65 u66 u67 u68 u69 u70 u71 u72 u73 u74 u75 u76 u77 u78 u79 u80 u81 u82 u83 u84 u85 u86 u87 u88 u89 u90 u91 u92 u93 u94 u95 u96 u97 u98 u99 u100 u101 u102 u103 u104 u105 u106 u107 u108 u109 u110 u111 u112 u113 u114 u115 u116 u117 u118 u119 u120 u121 u122 u123 u124 u125 u126 u127 u128 u129 u130 u131 u132 u133 u134 u135 u136 u137 : Value) (m : Nat) (r1 : List S32) (r2 r3 : Int) (w wr : World) (K : Act → World → Prop) (Q : Exit → Act → World → Prop)
    (hM : PMem w w.heap.size vO out rule word inn tgt true wr) (b1 : 0 ≤ i) (b2 : i ≤ 32770) (b3 : out.length < 100000) (b4 : rule.f1.length < 100000) (b5 : word.size < 100000)
    (hK : ∀ a' w', DpSt a0 w r1 r2 r3 m a' w' → K a' w') (hret : ∀ a' w', bodyPost Try.prog Try.f12 (DPost r1 r2 r3 w) .ret a' w' → Q .ret a' w')
    (c1 : i ≤ (a0.size : Int)) (c2 : (i == (a0.size : Int)) = true) (ct : closeTgt inn tgt true = true)
    (h : depfile_Parse.l0 m a0 (out ++ [closeRule rule word inn true]) z32 ⟨#[]⟩ false false false (i + 1) = some (r1, r2, r3)) :
    Code.wp Try.prog dpBody (Exit.then K Q) { tmps := #[.string a0, u1, u2, .pointer (some ⟨w.heap.size, 0, none⟩), vO, .pointer (some ⟨w.heap.size + 1, 0, none⟩), .pointer (some ⟨w.heap.size + 2, 0, none⟩), .pointer (some ⟨w.heap.size + 3, 0, none⟩), .pointer (some ⟨w.heap.size + 4, 0, none⟩), .pointer (some ⟨w.heap.size + 5, 0, none⟩), .func (.func 27) #[] #[.pointer (some ⟨w.heap.size + 3, 0, none⟩), .pointer (some ⟨w.heap.size + 5, 0, none⟩), .pointer (some ⟨w.heap.size + 1, 0, none⟩), .pointer (some ⟨w.heap.size + 2, 0, none⟩), .pointer (some ⟨w.heap.size + 4, 0, none⟩)], .func (.func 28) #[] #[], .int .i64 i, u13, u14, u15, u16, u17, u18, u19, u20, u21, u22, u23, u24, u25, u26, u27, u28, u29, u30, u31, u32, u33, u34, u35, u36, u37, u38, u39, u40, u41, u42, u43, u44, u45, u46, u47, u48, u49, u50, u51, u52, u53, u54, u55, u56, u57, u58, u59, u60, u61, u62, u63, u64, u65, u66, u67, u68, u69, u70, u71, u72, u73, u74, u75, u76, u77, u78, u79, u80, u81, u82, u83, u84, u85, u86, u87, u88, u89, u90, u91, u92, u93, u94, u95, u96, u97, u98, u99, u100, u101, u102, u103, u104, u105, u106, u107, u108, u109, u110, u111, u112, u113, u114, u115, u116, u117, u118, u119, u120, u121, u122, u123, u124, u125, u126, u127, u128, u129, u130, u131, u132, u133, u134, u135, u136, u137], defers := [] } wr := by
  obtain ⟨k3, k4, k5, k2, k0, k0b, f0, f0b, f2, f3, f4, f5, f1, f1b, k1, A1, n1, C1, k1b⟩ := hM.cells
  have c1b : decide (i ≤ (a0.size : Int)) = true := decide_eq_true c1
  have H' := Aside0.mk h
  clear h hret
  conv => arg 2; whnf
  go_wp2_with (first | (go_at_call 27; refine (close_calls (by first | exact hM | exact hM.drewN_ _) (by omega)).mono ?_; rintro e w2 ⟨rfl, hM2⟩; rw [ct] at hM2; obtain ⟨hb2, hs, h0, h2, h3, h4, h5, vD, okO, okD, h1, hO, hD, hx2, hy2⟩ := hM2; obtain ⟨A2, C2, rfl⟩ := Kd.R_slice hD; have q4 : w2.cell? ⟨w.heap.size + 4, 0, none⟩ = some (.bool true) := blk_cell h4 0; have q5 : w2.cell? ⟨w.heap.size + 5, 0, none⟩ = some (.bool true) := blk_cell h5 0; have q1 : w2.cell? ⟨w.heap.size + 1, 0, none⟩ = some (.string (closeRule rule word inn true).f0) := blk_cell h1 0; have q1b : w2.cell? ⟨w.heap.size + 1, 1, none⟩ = some (.slice A2 (closeRule rule word inn true).f1.length C2) := blk_cell h1 1) | (at_builtin; refine push_event (w := w2) (B := w.heap.size + 6) (rule := closeRule rule word inn true) rfl rfl rfl rfl hs hO hD (fun k hk => (hx2 k hk).2.2) (by omega) ?_; intro A6 c6 w1 ho hg; obtain ⟨e1, e4, e5, hP⟩ := PMem.push hb2 hs h0 h2 h3 h4 h5 h1 hO hD hx2 hy2 ho hg; have y1 : w1.cell? ⟨w.heap.size + 1, 0, none⟩ = some (.string (closeRule rule word inn true).f0) := blk_cell e1 0; have y1b : w1.cell? ⟨w.heap.size + 1, 1, none⟩ = some (.slice A2 (closeRule rule word inn true).f1.length C2) := blk_cell e1 1; have y4 : w1.cell? ⟨w.heap.size + 4, 0, none⟩ = some (.bool true) := blk_cell e4 0; have y5 : w1.cell? ⟨w.heap.size + 5, 0, none⟩ = some (.bool true) := blk_cell e5 0; have z1 := blk_frozen e1 0; have z1b := blk_frozen e1 1; have z4 := blk_frozen e4 0; have z5 := blk_frozen e5 0) | go_in)
  all_goals exact DpSt.mk' _ _ _ _ _ _ _ _ _ _ _ _ _ _ _ _ _ _ _ _ _ _ _ _ _ _ _ _ _ _ _ _ _ _ _ _ _ _ _ _ _ _ _ _ _ _ _ _ _ _ _ _ _ _ _ _ _ _ _ _ _ _ _ _ _ _ _ _ _ _ _ _ _ _ _ _ _ _ _ _ _ _ _ _ _ _ _ _ _ _ _ _ _ _ _ _ _ _ _ _ _ _ _ _ _ _ _ _ _ _ _ _ _ _ _ _ _ _ _ _ _ _ _ _ _ _ _ _ _ _ _ _ _ _ _ H'.out hP
set_option maxHeartbeats 4000000 in
set_option maxRecDepth 1000000 in
theorem dp_AEn (a0 : ByteArray) (out : List S32) (rule : S32) (word : ByteArray) (inn tgt col : Bool) (i : Int) (vO u1 u2 u13 u14 u15 u16 u17 u18 u19 u20 u21 u22 u23 u24 u25 u26 u27 u28 u29 u30 u31 u32 u33 u34 u35 u36 u37 u38 u39 u40 u41 u42 u43 u44 u45 u46 u47 u48 u49 u50 u51 u52 u53 u54 u55 u56 u57 u58 u59 u60 u61 u62 u63 u64 u65 u66 u67 u68 u69 u70 u71 u72 u73 u74 u75 u76 u77 u78 u79 u80 u81 u82 u83 u84 u85 u86 u87 u88 u89 u90 u91 u92 u93 u94 u95 u96 u97 u98 u99 u100 u101 u102 u103 u104 u105 u106 u107 u108 u109 u110 u111 u112 u113 u114 u115 u116 u117 u118 u119 u120 u121 u122 u123 u124 u125 u126 u127 u128 u129 u130 u131 u132 u133 u134 u135 u136 u137 : Value) (m : Nat) (r1 : List S32) (r2 r3 : Int) (w wr : World) (K : Act → World → Prop) (Q : Exit → Act → World → Prop)
    (hM : PMem w w.heap.size vO out rule word inn tgt col wr) (b1 : 0 ≤ i) (b2 : i ≤ 32770) (b3 : out.length < 100000) (b4 : rule.f1.length < 100000) (b5 : word.size < 100000)
    (hK : ∀ a' w', DpSt a0 w r1 r2 r3 m a' w' → K a' w') (hret : ∀ a' w', bodyPost Try.prog Try.f12 (DPost r1 r2 r3 w) .ret a' w' → Q .ret a' w')
    (c1 : i ≤ (a0.size : Int)) (c2 : (i == (a0.size : Int)) = true) (ct : closeTgt inn tgt col = false)
    (h : depfile_Parse.l0 m a0 out z32 ⟨#[]⟩ false false false (i + 1) = some (r1, r2, r3)) :
    Code.wp Try.prog dpBody (Exit.then K Q) { tmps := #[.string a0, u1, u2, .pointer (some ⟨w.heap.size, 0, none⟩), vO, .pointer (some ⟨w.heap.size + 1, 0, none⟩), .pointer (some ⟨w.heap.size + 2, 0, none⟩), .pointer (some ⟨w.heap.size + 3, 0, none⟩), .pointer (some ⟨w.heap.size + 4, 0, none⟩), .pointer (some ⟨w.heap.size + 5, 0, none⟩), .func (.func 27) #[] #[.pointer (some ⟨w.heap.size + 3, 0, none⟩), .pointer (some ⟨w.heap.size + 5, 0, none⟩), .pointer (some ⟨w.heap.size + 1, 0, none⟩), .pointer (some ⟨w.heap.size + 2, 0, none⟩), .pointer (some ⟨w.heap.size + 4, 0, none⟩)], .func (.func 28) #[] #[], .int .i64 i, u13, u14, u15, u16, u17, u18, u19, u20, u21, u22, u23, u24, u25, u26, u27, u28, u29, u30, u31, u32, u33, u34, u35, u36, u37, u38, u39, u40, u41, u42, u43, u44, u45, u46, u47, u48, u49, u50, u51, u52, u53, u54, u55, u56, u57, u58, u59, u60, u61, u62, u63, u64, u65, u66, u67, u68, u69, u70, u71, u72, u73, u74, u75, u76, u77, u78, u79, u80, u81, u82, u83, u84, u85, u86, u87, u88, u89, u90, u91, u92, u93, u94, u95, u96, u97, u98, u99, u100, u101, u102, u103, u104, u105, u106, u107, u108, u109, u110, u111, u112, u113, u114, u115, u116, u117, u118, u119, u120, u121, u122, u123, u124, u125, u126, u127, u128, u129, u130, u131, u132, u133, u134, u135, u136, u137], defers := [] } wr := by
  obtain ⟨k3, k4, k5, k2, k0, k0b, f0, f0b, f2, f3, f4, f5, f1, f1b, k1, A1, n1, C1, k1b⟩ := hM.cells
  have c1b : decide (i ≤ (a0.size : Int)) = true := decide_eq_true c1
  have H' := Aside0.mk h
  clear h hret
  conv => arg 2; whnf
  go_wp2_with (first | (go_at_call 27; refine (close_calls (by first | exact hM | exact hM.drewN_ _) (by omega)).mono ?_; rintro e w2 ⟨rfl, hM2⟩; rw [ct] at hM2; obtain ⟨q3, q4, q5, q2, q0, q0b, g0, g0b, g2, g3, g4, g5, g1, g1b, q1, A2, n2, C2, q1b⟩ := hM2.cells) | go_in)
  all_goals exact DpSt.mk' _ _ _ _ _ _ _ _ _ _ _ _ _ _ _ _ _ _ _ _ _ _ _ _ _ _ _ _ _ _ _ _ _ _ _ _ _ _ _ _ _ _ _ _ _ _ _ _ _ _ _ _ _ _ _ _ _ _ _ _ _ _ _ _ _ _ _ _ _ _ _ _ _ _ _ _ _ _ _ _ _ _ _ _ _ _ _ _ _ _ _ _ _ _ _ _ _ _ _ _ _ _ _ _ _ _ _ _ _ _ _ _ _ _ _ _ _ _ _ _ _ _ _ _ _ _ _ _ _ _ _ _ _ _ _ H'.out hM2.reset
set_option maxHeartbeats 4000000 in
set_option maxRecDepth 1000000 in
theorem dp_ANw (a0 : ByteArray) (out : List S32) (rule : S32) (word : ByteArray) (inn tgt : Bool) (i : Int) (vO u1 u2 u13 u14 u15 u16 u17 u18 u19 u20 u21 u22 u23 u24 u25 u26 u27 u28 u29 u30 u31 u32 u33 u34 u35 u36 u37 u38 u39 u40 u41 u42 u43 u44 u45 u46 u47 u48 u49 u50 u51 u52 u53 u54 u55 u56 u57 u58 u59 u60 u61 u62 u63 u64 u65 u66 u67 u68 u69 u70 u71 u72 u73 u74 u75 u76 u77 u78 u79 u80 u81 u82 u83 u84 u85 u86 u87 u88 u89 u90 u91 u92 u93 u94 u95 u96 u97 u98 u99 u100 u101 u102 u103 u104 u105 u106 u107 u108 u109 u110 u111 u112 u113 u114 u115 u116 u117 u118 u119 u120 u121 u122 u123 u124 u125 u126 u127 u128 u129 u130 u131 u132 u133 u134 u135 u136 u137 : Value) (m : Nat) (r1 : List S32) (r2 r3 : Int) (w wr : World) (K : Act → World → Prop) (Q : Exit → Act → World → Prop)
    (hM : PMem w w.heap.size vO out rule word inn tgt false wr) (b1 : 0 ≤ i) (b2 : i ≤ 32770) (b3 : out.length < 100000) (b4 : rule.f1.length < 100000) (b5 : word.size < 100000)
    (hK : ∀ a' w', DpSt a0 w r1 r2 r3 m a' w' → K a' w') (hret : ∀ a' w', bodyPost Try.prog Try.f12 (DPost r1 r2 r3 w) .ret a' w' → Q .ret a' w')
    (c1 : i ≤ (a0.size : Int)) (c3 : i < (a0.size : Int)) (c2 : (i == (a0.size : Int)) = false) (c4 : (bt a0 i == 10) = true) (hx : ∀ h : i.toNat < a0.size, ((a0[i.toNat]'h).toNat : Int) = bt a0 i) (ct : closeTgt inn tgt false = true)
    (h : some ([], 6, i) = some (r1, r2, r3)) :
    Code.wp Try.prog dpBody (Exit.then K Q) { tmps := #[.string a0, u1, u2, .pointer (some ⟨w.heap.size, 0, none⟩), vO, .pointer (some ⟨w.heap.size + 1, 0, none⟩), .pointer (some ⟨w.heap.size + 2, 0, none⟩), .pointer (some ⟨w.heap.size + 3, 0, none⟩), .pointer (some ⟨w.heap.size + 4, 0, none⟩), .pointer (some ⟨w.heap.size + 5, 0, none⟩), .func (.func 27) #[] #[.pointer (some ⟨w.heap.size + 3, 0, none⟩), .pointer (some ⟨w.heap.size + 5, 0, none⟩), .pointer (some ⟨w.heap.size + 1, 0, none⟩), .pointer (some ⟨w.heap.size + 2, 0, none⟩), .pointer (some ⟨w.heap.size + 4, 0, none⟩)], .func (.func 28) #[] #[], .int .i64 i, u13, u14, u15, u16, u17, u18, u19, u20, u21, u22, u23, u24, u25, u26, u27, u28, u29, u30, u31, u32, u33, u34, u35, u36, u37, u38, u39, u40, u41, u42, u43, u44, u45, u46, u47, u48, u49, u50, u51, u52, u53, u54, u55, u56, u57, u58, u59, u60, u61, u62, u63, u64, u65, u66, u67, u68, u69, u70, u71, u72, u73, u74, u75, u76, u77, u78, u79, u80, u81, u82, u83, u84, u85, u86, u87, u88, u89, u90, u91, u92, u93, u94, u95, u96, u97, u98, u99, u100, u101, u102, u103, u104, u105, u106, u107, u108, u109, u110, u111, u112, u113, u114, u115, u116, u117, u118, u119, u120, u121, u122, u123, u124, u125, u126, u127, u128, u129, u130, u131, u132, u133, u134, u135, u136, u137], defers := [] } wr := by
  obtain ⟨k3, k4, k5, k2, k0, k0b, f0, f0b, f2, f3, f4, f5, f1, f1b, k1, A1, n1, C1, k1b⟩ := hM.cells
  have c1b : decide (i ≤ (a0.size : Int)) = true := decide_eq_true c1
  injection h with h
  injection h with e1 h
  injection h with e2 e3
  subst e1 e2 e3
  clear hK
  conv => arg 2; whnf
  go_wp2_with (first | (go_at_call 27; refine (close_calls (by first | exact hM | exact hM.drewN_ _) (by omega)).mono ?_; rintro e w2 ⟨rfl, hM2⟩; rw [ct] at hM2; obtain ⟨q3, q4, q5, q2, q0, q0b, g0, g0b, g2, g3, g4, g5, g1, g1b, q1, A2, n2, C2, q1b⟩ := hM2.cells) | (go_at_call 28; refine (wrong_calls _ _).mono ?_; rintro e w4 ⟨rfl, hb4⟩; have hM4 := PMem.below_ hM2 hb4; obtain ⟨r3, r4, r5, r2_, r0, r0b, s0, s0b, s2, s3, s4, s5, s1, s1b, p1, A4, n4, C4, p1b⟩ := hM4.cells) | go_in)
  all_goals (try dsimp +zetaDelta only [Exit.then, Exit.noGoto, Exit.inBlock])
  first | exact (bodyPost_ret (results_tc rfl _ _ w.heap.size 26 _ (0, 0) _ rfl (PMem.tell hM4 _ _).1 Try.underlying26 rfl info26s) rfl (DPost.mk (Kd.S_nil _ _ _ _ _) (PMem.tell hM4 _ _).2.1)) | exact hret _ _ (bodyPost_ret (results_tc rfl _ _ w.heap.size 26 _ (0, 0) _ rfl (PMem.tell hM4 _ _).1 Try.underlying26 rfl info26s) rfl (DPost.mk (Kd.S_nil _ _ _ _ _) (PMem.tell hM4 _ _).2.1))
set_option maxHeartbeats 4000000 in
set_option maxRecDepth 1000000 in
theorem dp_ANp (a0 : ByteArray) (out : List S32) (rule : S32) (word : ByteArray) (inn tgt : Bool) (i : Int) (vO u1 u2 u13 u14 u15 u16 u17 u18 u19 u20 u21 u22 u23 u24 u25 u26 u27 u28 u29 u30 u31 u32 u33 u34 u35 u36 u37 u38 u39 u40 u41 u42 u43 u44 u45 u46 u47 u48 u49 u50 u51 u52 u53 u54 u55 u56 u57 u58 u59 u60 u61 u62 u63 u64 u65 u66 u67 u68 u69 u70 u71 u72 u73 u74 u75 u76 u77 u78 u79 u80 u81 u82 u83 u84 u85 u86 u87 u88 u89 u90 u91 u92 u93 u94 u95 u96 u97 u98 u99 u100 u101 u102 u103 u104 u105 u106 u107 u108 u109 u110 u111 u112 u113 u114 u115 u116 u117 u118 u119 u120 u121 u122 u123 u124 u125 u126 u127 u128 u129 u130 u131 u132 u133 u134 u135 u136 u137 : Value) (m : Nat) (r1 : List S32) (r2 r3 : Int) (w wr : World) (K : Act → World → Prop) (Q : Exit → Act → World → Prop)
    (hM : PMem w w.heap.size vO out rule word inn tgt true wr) (b1 : 0 ≤ i) (b2 : i ≤ 32770) (b3 : out.length < 100000) (b4 : rule.f1.length < 100000) (b5 : word.size < 100000)
    (hK : ∀ a' w', DpSt a0 w r1 r2 r3 m a' w' → K a' w') (hret : ∀ a' w', bodyPost Try.prog Try.f12 (DPost r1 r2 r3 w) .ret a' w' → Q .ret a' w')
    (c1 : i ≤ (a0.size : Int)) (c3 : i < (a0.size : Int)) (c2 : (i == (a0.size : Int)) = false) (c4 : (bt a0 i == 10) = true) (hx : ∀ h : i.toNat < a0.size, ((a0[i.toNat]'h).toNat : Int) = bt a0 i) (ct : closeTgt inn tgt true = true)
    (h : depfile_Parse.l0 m a0 (out ++ [closeRule rule word inn true]) z32 ⟨#[]⟩ false false false (i + 1) = some (r1, r2, r3)) :
    Code.wp Try.prog dpBody (Exit.then K Q) { tmps := #[.string a0, u1, u2, .pointer (some ⟨w.heap.size, 0, none⟩), vO, .pointer (some ⟨w.heap.size + 1, 0, none⟩), .pointer (some ⟨w.heap.size + 2, 0, none⟩), .pointer (some ⟨w.heap.size + 3, 0, none⟩), .pointer (some ⟨w.heap.size + 4, 0, none⟩), .pointer (some ⟨w.heap.size + 5, 0, none⟩), .func (.func 27) #[] #[.pointer (some ⟨w.heap.size + 3, 0, none⟩), .pointer (some ⟨w.heap.size + 5, 0, none⟩), .pointer (some ⟨w.heap.size + 1, 0, none⟩), .pointer (some ⟨w.heap.size + 2, 0, none⟩), .pointer (some ⟨w.heap.size + 4, 0, none⟩)], .func (.func 28) #[] #[], .int .i64 i, u13, u14, u15, u16, u17, u18, u19, u20, u21, u22, u23, u24, u25, u26, u27, u28, u29, u30, u31, u32, u33, u34, u35, u36, u37, u38, u39, u40, u41, u42, u43, u44, u45, u46, u47, u48, u49, u50, u51, u52, u53, u54, u55, u56, u57, u58, u59, u60, u61, u62, u63, u64, u65, u66, u67, u68, u69, u70, u71, u72, u73, u74, u75, u76, u77, u78, u79, u80, u81, u82, u83, u84, u85, u86, u87, u88, u89, u90, u91, u92, u93, u94, u95, u96, u97, u98, u99, u100, u101, u102, u103, u104, u105, u106, u107, u108, u109, u110, u111, u112, u113, u114, u115, u116, u117, u118, u119, u120, u121, u122, u123, u124, u125, u126, u127, u128, u129, u130, u131, u132, u133, u134, u135, u136, u137], defers := [] } wr := by
  obtain ⟨k3, k4, k5, k2, k0, k0b, f0, f0b, f2, f3, f4, f5, f1, f1b, k1, A1, n1, C1, k1b⟩ := hM.cells
  have c1b : decide (i ≤ (a0.size : Int)) = true := decide_eq_true c1
  have H' := Aside0.mk h
  clear h hret
  conv => arg 2; whnf
  go_wp2_with (first | (go_at_call 27; refine (close_calls (by first | exact hM | exact hM.drewN_ _) (by omega)).mono ?_; rintro e w2 ⟨rfl, hM2⟩; rw [ct] at hM2; obtain ⟨hb2, hs, h0, h2, h3, h4, h5, vD, okO, okD, h1, hO, hD, hx2, hy2⟩ := hM2; obtain ⟨A2, C2, rfl⟩ := Kd.R_slice hD; have q4 : w2.cell? ⟨w.heap.size + 4, 0, none⟩ = some (.bool true) := blk_cell h4 0; have q5 : w2.cell? ⟨w.heap.size + 5, 0, none⟩ = some (.bool true) := blk_cell h5 0; have q1 : w2.cell? ⟨w.heap.size + 1, 0, none⟩ = some (.string (closeRule rule word inn true).f0) := blk_cell h1 0; have q1b : w2.cell? ⟨w.heap.size + 1, 1, none⟩ = some (.slice A2 (closeRule rule word inn true).f1.length C2) := blk_cell h1 1) | (at_builtin; refine push_event (w := w2) (B := w.heap.size + 6) (rule := closeRule rule word inn true) rfl rfl rfl rfl hs hO hD (fun k hk => (hx2 k hk).2.2) (by omega) ?_; intro A6 c6 w1 ho hg; obtain ⟨e1, e4, e5, hP⟩ := PMem.push hb2 hs h0 h2 h3 h4 h5 h1 hO hD hx2 hy2 ho hg; have y1 : w1.cell? ⟨w.heap.size + 1, 0, none⟩ = some (.string (closeRule rule word inn true).f0) := blk_cell e1 0; have y1b : w1.cell? ⟨w.heap.size + 1, 1, none⟩ = some (.slice A2 (closeRule rule word inn true).f1.length C2) := blk_cell e1 1; have y4 : w1.cell? ⟨w.heap.size + 4, 0, none⟩ = some (.bool true) := blk_cell e4 0; have y5 : w1.cell? ⟨w.heap.size + 5, 0, none⟩ = some (.bool true) := blk_cell e5 0; have z1 := blk_frozen e1 0; have z1b := blk_frozen e1 1; have z4 := blk_frozen e4 0; have z5 := blk_frozen e5 0) | go_in)
  all_goals exact DpSt.mk' _ _ _ _ _ _ _ _ _ _ _ _ _ _ _ _ _ _ _ _ _ _ _ _ _ _ _ _ _ _ _ _ _ _ _ _ _ _ _ _ _ _ _ _ _ _ _ _ _ _ _ _ _ _ _ _ _ _ _ _ _ _ _ _ _ _ _ _ _ _ _ _ _ _ _ _ _ _ _ _ _ _ _ _ _ _ _ _ _ _ _ _ _ _ _ _ _ _ _ _ _ _ _ _ _ _ _ _ _ _ _ _ _ _ _ _ _ _ _ _ _ _ _ _ _ _ _ _ _ _ _ _ _ _ _ H'.out hP
set_option maxHeartbeats 4000000 in
set_option maxRecDepth 1000000 in
theorem dp_ANn (a0 : ByteArray) (out : List S32) (rule : S32) (word : ByteArray) (inn tgt col : Bool) (i : Int) (vO u1 u2 u13 u14 u15 u16 u17 u18 u19 u20 u21 u22 u23 u24 u25 u26 u27 u28 u29 u30 u31 u32 u33 u34 u35 u36 u37 u38 u39 u40 u41 u42 u43 u44 u45 u46 u47 u48 u49 u50 u51 u52 u53 u54 u55 u56 u57 u58 u59 u60 u61 u62 u63 u64 u65 u66 u67 u68 u69 u70 u71 u72 u73 u74 u75 u76 u77 u78 u79 u80 u81 u82 u83 u84 u85 u86 u87 u88 u89 u90 u91 u92 u93 u94 u95 u96 u97 u98 u99 u100 u101 u102 u103 u104 u105 u106 u107 u108 u109 u110 u111 u112 u113 u114 u115 u116 u117 u118 u119 u120 u121 u122 u123 u124 u125 u126 u127 u128 u129 u130 u131 u132 u133 u134 u135 u136 u137 : Value) (m : Nat) (r1 : List S32) (r2 r3 : Int) (w wr : World) (K : Act → World → Prop) (Q : Exit → Act → World → Prop)
    (hM : PMem w w.heap.size vO out rule word inn tgt col wr) (b1 : 0 ≤ i) (b2 : i ≤ 32770) (b3 : out.length < 100000) (b4 : rule.f1.length < 100000) (b5 : word.size < 100000)
    (hK : ∀ a' w', DpSt a0 w r1 r2 r3 m a' w' → K a' w') (hret : ∀ a' w', bodyPost Try.prog Try.f12 (DPost r1 r2 r3 w) .ret a' w' → Q .ret a' w')
    (c1 : i ≤ (a0.size : Int)) (c3 : i < (a0.size : Int)) (c2 : (i == (a0.size : Int)) = false) (c4 : (bt a0 i == 10) = true) (hx : ∀ h : i.toNat < a0.size, ((a0[i.toNat]'h).toNat : Int) = bt a0 i) (ct : closeTgt inn tgt col = false)
    (h : depfile_Parse.l0 m a0 out z32 ⟨#[]⟩ false false false (i + 1) = some (r1, r2, r3)) :
    Code.wp Try.prog dpBody (Exit.then K Q) { tmps := #[.string a0, u1, u2, .pointer (some ⟨w.heap.size, 0, none⟩), vO, .pointer (some ⟨w.heap.size + 1, 0, none⟩), .pointer (some ⟨w.heap.size + 2, 0, none⟩), .pointer (some ⟨w.heap.size + 3, 0, none⟩), .pointer (some ⟨w.heap.size + 4, 0, none⟩), .pointer (some ⟨w.heap.size + 5, 0, none⟩), .func (.func 27) #[] #[.pointer (some ⟨w.heap.size + 3, 0, none⟩), .pointer (some ⟨w.heap.size + 5, 0, none⟩), .pointer (some ⟨w.heap.size + 1, 0, none⟩), .pointer (some ⟨w.heap.size + 2, 0, none⟩), .pointer (some ⟨w.heap.size + 4, 0, none⟩)], .func (.func 28) #[] #[], .int .i64 i, u13, u14, u15, u16, u17, u18, u19, u20, u21, u22, u23, u24, u25, u26, u27, u28, u29, u30, u31, u32, u33, u34, u35, u36, u37, u38, u39, u40, u41, u42, u43, u44, u45, u46, u47, u48, u49, u50, u51, u52, u53, u54, u55, u56, u57, u58, u59, u60, u61, u62, u63, u64, u65, u66, u67, u68, u69, u70, u71, u72, u73, u74, u75, u76, u77, u78, u79, u80, u81, u82, u83, u84, u85, u86, u87, u88, u89, u90, u91, u92, u93, u94, u95, u96, u97, u98, u99, u100, u101, u102, u103, u104, u105, u106, u107, u108, u109, u110, u111, u112, u113, u114, u115, u116, u117, u118, u119, u120, u121, u122, u123, u124, u125, u126, u127, u128, u129, u130, u131, u132, u133, u134, u135, u136, u137], defers := [] } wr := by
  obtain ⟨k3, k4, k5, k2, k0, k0b, f0, f0b, f2, f3, f4, f5, f1, f1b, k1, A1, n1, C1, k1b⟩ := hM.cells
  have c1b : decide (i ≤ (a0.size : Int)) = true := decide_eq_true c1
  have H' := Aside0.mk h
  clear h hret
  conv => arg 2; whnf
  go_wp2_with (first | (go_at_call 27; refine (close_calls (by first | exact hM | exact hM.drewN_ _) (by omega)).mono ?_; rintro e w2 ⟨rfl, hM2⟩; rw [ct] at hM2; obtain ⟨q3, q4, q5, q2, q0, q0b, g0, g0b, g2, g3, g4, g5, g1, g1b, q1, A2, n2, C2, q1b⟩ := hM2.cells) | go_in)
  all_goals exact DpSt.mk' _ _ _ _ _ _ _ _ _ _ _ _ _ _ _ _ _ _ _ _ _ _ _ _ _ _ _ _ _ _ _ _ _ _ _ _ _ _ _ _ _ _ _ _ _ _ _ _ _ _ _ _ _ _ _ _ _ _ _ _ _ _ _ _ _ _ _ _ _ _ _ _ _ _ _ _ _ _ _ _ _ _ _ _ _ _ _ _ _ _ _ _ _ _ _ _ _ _ _ _ _ _ _ _ _ _ _ _ _ _ _ _ _ _ _ _ _ _ _ _ _ _ _ _ _ _ _ _ _ _ _ _ _ _ _ H'.out hM2.reset
end Go.Proofs.Ytahdgaaedilcmaa.P
/- depfile.Parse: cases of a round. -/
namespace Go.Proofs.Ytahdgaaedilcmaa.P
open Go.RowKit Go.Proofs.YtahdgaaedilcmaaW.PrintWords Go.Proofs.YtahdgaaedilcmaaW.PrintLast Go.Proofs.YtahdgaaedilcmaaW.PrintMore
set_option linter.unusedVariables false
set_option linter.unusedSimpArgs false
set_option maxHeartbeats 4000000 in
set_option maxRecDepth 1000000 in
theorem dp_B (a0 : ByteArray) (out : List S32) (rule : S32) (word : ByteArray) (inn tgt col : Bool) (i : Int) (vO u1 u2 u13 u14 u15 u16 u17 u18 u19 u20 u21 u22 u23 u24 u25 u26 u27 u28 u29 u30 u31 u32 u33 u34 u35 u36 u37 u38 u39 u40 u41 u42 u43 u44 u45 u46 u47 u48 u49 u50 u51 u52 u53 u54 u55 u56 u57 u58 u59 u60 u61 u62 u63 u64 u65 u66 u67 u68 u69 u70 u71 u72 u73 u74 u75 u76 u77 u78 u79 u80 u81 u82 u83 u84 u85 u86 u87 u88 u89 u90 u91 u92 u93 u94 u95 u96 u97 u98 u99 u100 u101 u102 u103 u104 u105 u106 u107 u108 u109 u110 u111 u112 u113 u114 u115 u116 u117 u118 u119 u120 u121 u122 u123 u124 u125 u126 u127 u128 u129 u130 u131 u132 u133 u134 u135 u136 u137 : Value) (m : Nat) (r1 : List S32) (r2 r3 : Int) (w wr : World) (K : Act → World → Prop) (Q : Exit → Act → World → Prop)
    (hM : PMem w w.heap.size vO out rule word inn tgt col wr) (b1 : 0 ≤ i) (b2 : i ≤ 32770) (b3 : out.length < 100000) (b4 : rule.f1.length < 100000) (b5 : word.size < 100000)
    (hK : ∀ a' w', DpSt a0 w r1 r2 r3 m a' w' → K a' w') (hret : ∀ a' w', bodyPost Try.prog Try.f12 (DPost r1 r2 r3 w) .ret a' w' → Q .ret a' w')
    (c1 : i ≤ (a0.size : Int)) (c3 : i < (a0.size : Int)) (c2a : (i == (a0.size : Int)) = false) (c2c : (bt a0 i == 10) = false) (hx : ∀ h : i.toNat < a0.size, ((a0[i.toNat]'h).toNat : Int) = bt a0 i) (c20 : decide (bt a0 i < 32) = true)
    (h : some ([], 6, i) = some (r1, r2, r3)) :
    Code.wp Try.prog dpBody (Exit.then K Q) { tmps := #[.string a0, u1, u2, .pointer (some ⟨w.heap.size, 0, none⟩), vO, .pointer (some ⟨w.heap.size + 1, 0, none⟩), .pointer (some ⟨w.heap.size + 2, 0, none⟩), .pointer (some ⟨w.heap.size + 3, 0, none⟩), .pointer (some ⟨w.heap.size + 4, 0, none⟩), .pointer (some ⟨w.heap.size + 5, 0, none⟩), .func (.func 27) #[] #[.pointer (some ⟨w.heap.size + 3, 0, none⟩), .pointer (some ⟨w.heap.size + 5, 0, none⟩), .pointer (some ⟨w.heap.size + 1, 0, none⟩), .pointer (some ⟨w.heap.size + 2, 0, none⟩), .pointer (some ⟨w.heap.size + 4, 0, none⟩)], .func (.func 28) #[] #[], .int .i64 i, u13, u14, u15, u16, u17, u18, u19, u20, u21, u22, u23, u24, u25, u26, u27, u28, u29, u30, u31, u32, u33, u34, u35, u36, u37, u38, u39, u40, u41, u42, u43, u44, u45, u46, u47, u48, u49, u50, u51, u52, u53, u54, u55, u56, u57, u58, u59, u60, u61, u62, u63, u64, u65, u66, u67, u68, u69, u70, u71, u72, u73, u74, u75, u76, u77, u78, u79, u80, u81, u82, u83, u84, u85, u86, u87, u88, u89, u90, u91, u92, u93, u94, u95, u96, u97, u98, u99, u100, u101, u102, u103, u104, u105, u106, u107, u108, u109, u110, u111, u112, u113, u114, u115, u116, u117, u118, u119, u120, u121, u122, u123, u124, u125, u126, u127, u128, u129, u130, u131, u132, u133, u134, u135, u136, u137], defers := [] } wr := by
  obtain ⟨k3, k4, k5, k2, k0, k0b, f0, f0b, f2, f3, f4, f5, f1, f1b, k1, A1, n1, C1, k1b⟩ := hM.cells
  have c1b : decide (i ≤ (a0.size : Int)) = true := decide_eq_true c1
  injection h with h
  injection h with e1 h
  injection h with e2 e3
  subst e1 e2 e3
  clear hK
  conv => arg 2; whnf
  go_wp2_with (first | (go_at_call 28; refine (wrong_calls _ _).mono ?_; rintro e w4 ⟨rfl, hb4⟩; have hM4 := PMem.below_ hM hb4; obtain ⟨r3, r4, r5, r2_, r0, r0b, s0, s0b, s2, s3, s4, s5, s1, s1b, p1, A4, n4, C4, p1b⟩ := hM4.cells) | go_in)
  all_goals (try dsimp +zetaDelta only [Exit.then, Exit.noGoto, Exit.inBlock])
  first | exact (bodyPost_ret (results_tc rfl _ _ w.heap.size 26 _ (0, 0) _ rfl (PMem.tell hM4 _ _).1 Try.underlying26 rfl info26s) rfl (DPost.mk (Kd.S_nil _ _ _ _ _) (PMem.tell hM4 _ _).2.1)) | exact hret _ _ (bodyPost_ret (results_tc rfl _ _ w.heap.size 26 _ (0, 0) _ rfl (PMem.tell hM4 _ _).1 Try.underlying26 rfl info26s) rfl (DPost.mk (Kd.S_nil _ _ _ _ _) (PMem.tell hM4 _ _).2.1))
set_option maxHeartbeats 4000000 in
set_option maxRecDepth 1000000 in
theorem dp_C (a0 : ByteArray) (out : List S32) (rule : S32) (word : ByteArray) (inn tgt col : Bool) (i : Int) (vO u1 u2 u13 u14 u15 u16 u17 u18 u19 u20 u21 u22 u23 u24 u25 u26 u27 u28 u29 u30 u31 u32 u33 u34 u35 u36 u37 u38 u39 u40 u41 u42 u43 u44 u45 u46 u47 u48 u49 u50 u51 u52 u53 u54 u55 u56 u57 u58 u59 u60 u61 u62 u63 u64 u65 u66 u67 u68 u69 u70 u71 u72 u73 u74 u75 u76 u77 u78 u79 u80 u81 u82 u83 u84 u85 u86 u87 u88 u89 u90 u91 u92 u93 u94 u95 u96 u97 u98 u99 u100 u101 u102 u103 u104 u105 u106 u107 u108 u109 u110 u111 u112 u113 u114 u115 u116 u117 u118 u119 u120 u121 u122 u123 u124 u125 u126 u127 u128 u129 u130 u131 u132 u133 u134 u135 u136 u137 : Value) (m : Nat) (r1 : List S32) (r2 r3 : Int) (w wr : World) (K : Act → World → Prop) (Q : Exit → Act → World → Prop)
    (hM : PMem w w.heap.size vO out rule word inn tgt col wr) (b1 : 0 ≤ i) (b2 : i ≤ 32770) (b3 : out.length < 100000) (b4 : rule.f1.length < 100000) (b5 : word.size < 100000)
    (hK : ∀ a' w', DpSt a0 w r1 r2 r3 m a' w' → K a' w') (hret : ∀ a' w', bodyPost Try.prog Try.f12 (DPost r1 r2 r3 w) .ret a' w' → Q .ret a' w')
    (c1 : i ≤ (a0.size : Int)) (c3 : i < (a0.size : Int)) (c2a : (i == (a0.size : Int)) = false) (c2c : (bt a0 i == 10) = false) (hx : ∀ h : i.toNat < a0.size, ((a0[i.toNat]'h).toNat : Int) = bt a0 i) (c20 : decide (bt a0 i < 32) = false) (c21 : (bt a0 i == 32) = true)
    (h : depfile_Parse.l0 m a0 out (closeRule rule word inn col) ⟨#[]⟩ false (closeTgt inn tgt col) col (i + 1) = some (r1, r2, r3)) :
    Code.wp Try.prog dpBody (Exit.then K Q) { tmps := #[.string a0, u1, u2, .pointer (some ⟨w.heap.size, 0, none⟩), vO, .pointer (some ⟨w.heap.size + 1, 0, none⟩), .pointer (some ⟨w.heap.size + 2, 0, none⟩), .pointer (some ⟨w.heap.size + 3, 0, none⟩), .pointer (some ⟨w.heap.size + 4, 0, none⟩), .pointer (some ⟨w.heap.size + 5, 0, none⟩), .func (.func 27) #[] #[.pointer (some ⟨w.heap.size + 3, 0, none⟩), .pointer (some ⟨w.heap.size + 5, 0, none⟩), .pointer (some ⟨w.heap.size + 1, 0, none⟩), .pointer (some ⟨w.heap.size + 2, 0, none⟩), .pointer (some ⟨w.heap.size + 4, 0, none⟩)], .func (.func 28) #[] #[], .int .i64 i, u13, u14, u15, u16, u17, u18, u19, u20, u21, u22, u23, u24, u25, u26, u27, u28, u29, u30, u31, u32, u33, u34, u35, u36, u37, u38, u39, u40, u41, u42, u43, u44, u45, u46, u47, u48, u49, u50, u51, u52, u53, u54, u55, u56, u57, u58, u59, u60, u61, u62, u63, u64, u65, u66, u67, u68, u69, u70, u71, u72, u73, u74, u75, u76, u77, u78, u79, u80, u81, u82, u83, u84, u85, u86, u87, u88, u89, u90, u91, u92, u93, u94, u95, u96, u97, u98, u99, u100, u101, u102, u103, u104, u105, u106, u107, u108, u109, u110, u111, u112, u113, u114, u115, u116, u117, u118, u119, u120, u121, u122, u123, u124, u125, u126, u127, u128, u129, u130, u131, u132, u133, u134, u135, u136, u137], defers := [] } wr := by
  obtain ⟨k3, k4, k5, k2, k0, k0b, f0, f0b, f2, f3, f4, f5, f1, f1b, k1, A1, n1, C1, k1b⟩ := hM.cells
  have c1b : decide (i ≤ (a0.size : Int)) = true := decide_eq_true c1
  have H' := Aside0.mk h
  clear h hret
  conv => arg 2; whnf
  go_wp2_with (first | (go_at_call 27; refine (close_calls (by first | exact hM | exact hM.drewN_ _) (by omega)).mono ?_; rintro e w2 ⟨rfl, hM2⟩; obtain ⟨q3, q4, q5, q2, q0, q0b, g0, g0b, g2, g3, g4, g5, g1, g1b, q1, A2, n2, C2, q1b⟩ := hM2.cells) | go_in)
  all_goals exact DpSt.mk' _ _ _ _ _ _ _ _ _ _ _ _ _ _ _ _ _ _ _ _ _ _ _ _ _ _ _ _ _ _ _ _ _ _ _ _ _ _ _ _ _ _ _ _ _ _ _ _ _ _ _ _ _ _ _ _ _ _ _ _ _ _ _ _ _ _ _ _ _ _ _ _ _ _ _ _ _ _ _ _ _ _ _ _ _ _ _ _ _ _ _ _ _ _ _ _ _ _ _ _ _ _ _ _ _ _ _ _ _ _ _ _ _ _ _ _ _ _ _ _ _ _ _ _ _ _ _ _ _ _ _ _ _ _ _ H'.out hM2
set_option maxHeartbeats 4000000 in
set_option maxRecDepth 1000000 in
theorem dp_D (a0 : ByteArray) (out : List S32) (rule : S32) (word : ByteArray) (inn tgt : Bool) (i : Int) (vO u1 u2 u13 u14 u15 u16 u17 u18 u19 u20 u21 u22 u23 u24 u25 u26 u27 u28 u29 u30 u31 u32 u33 u34 u35 u36 u37 u38 u39 u40 u41 u42 u43 u44 u45 u46 u47 u48 u49 u50 u51 u52 u53 u54 u55 u56 u57 u58 u59 u60 u61 u62 u63 u64 u65 u66 u67 u68 u69 u70 u71 u72 u73 u74 u75 u76 u77 u78 u79 u80 u81 u82 u83 u84 u85 u86 u87 u88 u89 u90 u91 u92 u93 u94 u95 u96 u97 u98 u99 u100 u101 u102 u103 u104 u105 u106 u107 u108 u109 u110 u111 u112 u113 u114 u115 u116 u117 u118 u119 u120 u121 u122 u123 u124 u125 u126 u127 u128 u129 u130 u131 u132 u133 u134 u135 u136 u137 : Value) (m : Nat) (r1 : List S32) (r2 r3 : Int) (w wr : World) (K : Act → World → Prop) (Q : Exit → Act → World → Prop)
    (hM : PMem w w.heap.size vO out rule word inn tgt false wr) (b1 : 0 ≤ i) (b2 : i ≤ 32770) (b3 : out.length < 100000) (b4 : rule.f1.length < 100000) (b5 : word.size < 100000)
    (hK : ∀ a' w', DpSt a0 w r1 r2 r3 m a' w' → K a' w') (hret : ∀ a' w', bodyPost Try.prog Try.f12 (DPost r1 r2 r3 w) .ret a' w' → Q .ret a' w')
    (c1 : i ≤ (a0.size : Int)) (c3 : i < (a0.size : Int)) (c2a : (i == (a0.size : Int)) = false) (c2c : (bt a0 i == 10) = false) (hx : ∀ h : i.toNat < a0.size, ((a0[i.toNat]'h).toNat : Int) = bt a0 i) (c20 : decide (bt a0 i < 32) = false) (c21 : (bt a0 i == 32) = false) (c22 : (bt a0 i == 58) = true) (ct : closeTgt inn tgt false = true)
    (h : depfile_Parse.l0 m a0 out (closeRule rule word inn false) ⟨#[]⟩ false true true (i + 1) = some (r1, r2, r3)) :
    Code.wp Try.prog dpBody (Exit.then K Q) { tmps := #[.string a0, u1, u2, .pointer (some ⟨w.heap.size, 0, none⟩), vO, .pointer (some ⟨w.heap.size + 1, 0, none⟩), .pointer (some ⟨w.heap.size + 2, 0, none⟩), .pointer (some ⟨w.heap.size + 3, 0, none⟩), .pointer (some ⟨w.heap.size + 4, 0, none⟩), .pointer (some ⟨w.heap.size + 5, 0, none⟩), .func (.func 27) #[] #[.pointer (some ⟨w.heap.size + 3, 0, none⟩), .pointer (some ⟨w.heap.size + 5, 0, none⟩), .pointer (some ⟨w.heap.size + 1, 0, none⟩), .pointer (some ⟨w.heap.size + 2, 0, none⟩), .pointer (some ⟨w.heap.size + 4, 0, none⟩)], .func (.func 28) #[] #[], .int .i64 i, u13, u14, u15, u16, u17, u18, u19, u20, u21, u22, u23, u24, u25, u26, u27, u28, u29, u30, u31, u32, u33, u34, u35, u36, u37, u38, u39, u40, u41, u42, u43, u44, u45, u46, u47, u48, u49, u50, u51, u52, u53, u54, u55, u56, u57, u58, u59, u60, u61, u62, u63, u64, u65, u66, u67, u68, u69, u70, u71, u72, u73, u74, u75, u76, u77, u78, u79, u80, u81, u82, u83, u84, u85, u86, u87, u88, u89, u90, u91, u92, u93, u94, u95, u96, u97, u98, u99, u100, u101, u102, u103, u104, u105, u106, u107, u108, u109, u110, u111, u112, u113, u114, u115, u116, u117, u118, u119, u120, u121, u122, u123, u124, u125, u126, u127, u128, u129, u130, u131, u132, u133, u134, u135, u136, u137], defers := [] } wr := by
  obtain ⟨k3, k4, k5, k2, k0, k0b, f0, f0b, f2, f3, f4, f5, f1, f1b, k1, A1, n1, C1, k1b⟩ := hM.cells
  have c1b : decide (i ≤ (a0.size : Int)) = true := decide_eq_true c1
  have H' := Aside0.mk h
  clear h hret
  conv => arg 2; whnf
  go_wp2_with (first | (go_at_call 27; refine (close_calls (by first | exact hM | exact hM.drewN_ _) (by omega)).mono ?_; rintro e w2 ⟨rfl, hM2⟩; rw [ct] at hM2; obtain ⟨q3, q4, q5, q2, q0, q0b, g0, g0b, g2, g3, g4, g5, g1, g1b, q1, A2, n2, C2, q1b⟩ := hM2.cells) | go_in)
  all_goals exact DpSt.mk' _ _ _ _ _ _ _ _ _ _ _ _ _ _ _ _ _ _ _ _ _ _ _ _ _ _ _ _ _ _ _ _ _ _ _ _ _ _ _ _ _ _ _ _ _ _ _ _ _ _ _ _ _ _ _ _ _ _ _ _ _ _ _ _ _ _ _ _ _ _ _ _ _ _ _ _ _ _ _ _ _ _ _ _ _ _ _ _ _ _ _ _ _ _ _ _ _ _ _ _ _ _ _ _ _ _ _ _ _ _ _ _ _ _ _ _ _ _ _ _ _ _ _ _ _ _ _ _ _ _ _ _ _ _ _ H'.out (hM2.setCol true)
set_option maxHeartbeats 4000000 in
set_option maxRecDepth 1000000 in
theorem dp_Dn (a0 : ByteArray) (out : List S32) (rule : S32) (word : ByteArray) (inn tgt col : Bool) (i : Int) (vO u1 u2 u13 u14 u15 u16 u17 u18 u19 u20 u21 u22 u23 u24 u25 u26 u27 u28 u29 u30 u31 u32 u33 u34 u35 u36 u37 u38 u39 u40 u41 u42 u43 u44 u45 u46 u47 u48 u49 u50 u51 u52 u53 u54 u55 u56 u57 u58 u59 u60 u61 u62 u63 u64 u65 u66 u67 u68 u69 u70 u71 u72 u73 u74 u75 u76 u77 u78 u79 u80 u81 u82 u83 u84 u85 u86 u87 u88 u89 u90 u91 u92 u93 u94 u95 u96 u97 u98 u99 u100 u101 u102 u103 u104 u105 u106 u107 u108 u109 u110 u111 u112 u113 u114 u115 u116 u117 u118 u119 u120 u121 u122 u123 u124 u125 u126 u127 u128 u129 u130 u131 u132 u133 u134 u135 u136 u137 : Value) (m : Nat) (r1 : List S32) (r2 r3 : Int) (w wr : World) (K : Act → World → Prop) (Q : Exit → Act → World → Prop)
    (hM : PMem w w.heap.size vO out rule word inn tgt col wr) (b1 : 0 ≤ i) (b2 : i ≤ 32770) (b3 : out.length < 100000) (b4 : rule.f1.length < 100000) (b5 : word.size < 100000)
    (hK : ∀ a' w', DpSt a0 w r1 r2 r3 m a' w' → K a' w') (hret : ∀ a' w', bodyPost Try.prog Try.f12 (DPost r1 r2 r3 w) .ret a' w' → Q .ret a' w')
    (c1 : i ≤ (a0.size : Int)) (c3 : i < (a0.size : Int)) (c2a : (i == (a0.size : Int)) = false) (c2c : (bt a0 i == 10) = false) (hx : ∀ h : i.toNat < a0.size, ((a0[i.toNat]'h).toNat : Int) = bt a0 i) (c20 : decide (bt a0 i < 32) = false) (c21 : (bt a0 i == 32) = false) (c22 : (bt a0 i == 58) = true) (ct : closeTgt inn tgt col = false)
    (h : some ([], 6, i) = some (r1, r2, r3)) :
    Code.wp Try.prog dpBody (Exit.then K Q) { tmps := #[.string a0, u1, u2, .pointer (some ⟨w.heap.size, 0, none⟩), vO, .pointer (some ⟨w.heap.size + 1, 0, none⟩), .pointer (some ⟨w.heap.size + 2, 0, none⟩), .pointer (some ⟨w.heap.size + 3, 0, none⟩), .pointer (some ⟨w.heap.size + 4, 0, none⟩), .pointer (some ⟨w.heap.size + 5, 0, none⟩), .func (.func 27) #[] #[.pointer (some ⟨w.heap.size + 3, 0, none⟩), .pointer (some ⟨w.heap.size + 5, 0, none⟩), .pointer (some ⟨w.heap.size + 1, 0, none⟩), .pointer (some ⟨w.heap.size + 2, 0, none⟩), .pointer (some ⟨w.heap.size + 4, 0, none⟩)], .func (.func 28) #[] #[], .int .i64 i, u13, u14, u15, u16, u17, u18, u19, u20, u21, u22, u23, u24, u25, u26, u27, u28, u29, u30, u31, u32, u33, u34, u35, u36, u37, u38, u39, u40, u41, u42, u43, u44, u45, u46, u47, u48, u49, u50, u51, u52, u53, u54, u55, u56, u57, u58, u59, u60, u61, u62, u63, u64, u65, u66, u67, u68, u69, u70, u71, u72, u73, u74, u75, u76, u77, u78, u79, u80, u81, u82, u83, u84, u85, u86, u87, u88, u89, u90, u91, u92, u93, u94, u95, u96, u97, u98, u99, u100, u101, u102, u103, u104, u105, u106, u107, u108, u109, u110, u111, u112, u113, u114, u115, u116, u117, u118, u119, u120, u121, u122, u123, u124, u125, u126, u127, u128, u129, u130, u131, u132, u133, u134, u135, u136, u137], defers := [] } wr := by
  obtain ⟨k3, k4, k5, k2, k0, k0b, f0, f0b, f2, f3, f4, f5, f1, f1b, k1, A1, n1, C1, k1b⟩ := hM.cells
  have c1b : decide (i ≤ (a0.size : Int)) = true := decide_eq_true c1
  injection h with h
  injection h with e1 h
  injection h with e2 e3
  subst e1 e2 e3
  clear hK
  conv => arg 2; whnf
  go_wp2_with (first | (go_at_call 27; refine (close_calls (by first | exact hM | exact hM.drewN_ _) (by omega)).mono ?_; rintro e w2 ⟨rfl, hM2⟩; rw [ct] at hM2; obtain ⟨q3, q4, q5, q2, q0, q0b, g0, g0b, g2, g3, g4, g5, g1, g1b, q1, A2, n2, C2, q1b⟩ := hM2.cells) | (go_at_call 28; refine (wrong_calls _ _).mono ?_; rintro e w4 ⟨rfl, hb4⟩; have hM4 := PMem.below_ hM2 hb4; obtain ⟨r3, r4, r5, r2_, r0, r0b, s0, s0b, s2, s3, s4, s5, s1, s1b, p1, A4, n4, C4, p1b⟩ := hM4.cells) | go_in)
  all_goals (try dsimp +zetaDelta only [Exit.then, Exit.noGoto, Exit.inBlock])
  first | exact (bodyPost_ret (results_tc rfl _ _ w.heap.size 26 _ (0, 0) _ rfl (PMem.tell hM4 _ _).1 Try.underlying26 rfl info26s) rfl (DPost.mk (Kd.S_nil _ _ _ _ _) (PMem.tell hM4 _ _).2.1)) | exact hret _ _ (bodyPost_ret (results_tc rfl _ _ w.heap.size 26 _ (0, 0) _ rfl (PMem.tell hM4 _ _).1 Try.underlying26 rfl info26s) rfl (DPost.mk (Kd.S_nil _ _ _ _ _) (PMem.tell hM4 _ _).2.1))
set_option maxHeartbeats 4000000 in
set_option maxRecDepth 1000000 in
theorem dp_Dc (a0 : ByteArray) (out : List S32) (rule : S32) (word : ByteArray) (inn tgt : Bool) (i : Int) (vO u1 u2 u13 u14 u15 u16 u17 u18 u19 u20 u21 u22 u23 u24 u25 u26 u27 u28 u29 u30 u31 u32 u33 u34 u35 u36 u37 u38 u39 u40 u41 u42 u43 u44 u45 u46 u47 u48 u49 u50 u51 u52 u53 u54 u55 u56 u57 u58 u59 u60 u61 u62 u63 u64 u65 u66 u67 u68 u69 u70 u71 u72 u73 u74 u75 u76 u77 u78 u79 u80 u81 u82 u83 u84 u85 u86 u87 u88 u89 u90 u91 u92 u93 u94 u95 u96 u97 u98 u99 u100 u101 u102 u103 u104 u105 u106 u107 u108 u109 u110 u111 u112 u113 u114 u115 u116 u117 u118 u119 u120 u121 u122 u123 u124 u125 u126 u127 u128 u129 u130 u131 u132 u133 u134 u135 u136 u137 : Value) (m : Nat) (r1 : List S32) (r2 r3 : Int) (w wr : World) (K : Act → World → Prop) (Q : Exit → Act → World → Prop)
    (hM : PMem w w.heap.size vO out rule word inn tgt true wr) (b1 : 0 ≤ i) (b2 : i ≤ 32770) (b3 : out.length < 100000) (b4 : rule.f1.length < 100000) (b5 : word.size < 100000)
    (hK : ∀ a' w', DpSt a0 w r1 r2 r3 m a' w' → K a' w') (hret : ∀ a' w', bodyPost Try.prog Try.f12 (DPost r1 r2 r3 w) .ret a' w' → Q .ret a' w')
    (c1 : i ≤ (a0.size : Int)) (c3 : i < (a0.size : Int)) (c2a : (i == (a0.size : Int)) = false) (c2c : (bt a0 i == 10) = false) (hx : ∀ h : i.toNat < a0.size, ((a0[i.toNat]'h).toNat : Int) = bt a0 i) (c20 : decide (bt a0 i < 32) = false) (c21 : (bt a0 i == 32) = false) (c22 : (bt a0 i == 58) = true) (ct : closeTgt inn tgt true = true)
    (h : some ([], 6, i) = some (r1, r2, r3)) :
    Code.wp Try.prog dpBody (Exit.then K Q) { tmps := #[.string a0, u1, u2, .pointer (some ⟨w.heap.size, 0, none⟩), vO, .pointer (some ⟨w.heap.size + 1, 0, none⟩), .pointer (some ⟨w.heap.size + 2, 0, none⟩), .pointer (some ⟨w.heap.size + 3, 0, none⟩), .pointer (some ⟨w.heap.size + 4, 0, none⟩), .pointer (some ⟨w.heap.size + 5, 0, none⟩), .func (.func 27) #[] #[.pointer (some ⟨w.heap.size + 3, 0, none⟩), .pointer (some ⟨w.heap.size + 5, 0, none⟩), .pointer (some ⟨w.heap.size + 1, 0, none⟩), .pointer (some ⟨w.heap.size + 2, 0, none⟩), .pointer (some ⟨w.heap.size + 4, 0, none⟩)], .func (.func 28) #[] #[], .int .i64 i, u13, u14, u15, u16, u17, u18, u19, u20, u21, u22, u23, u24, u25, u26, u27, u28, u29, u30, u31, u32, u33, u34, u35, u36, u37, u38, u39, u40, u41, u42, u43, u44, u45, u46, u47, u48, u49, u50, u51, u52, u53, u54, u55, u56, u57, u58, u59, u60, u61, u62, u63, u64, u65, u66, u67, u68, u69, u70, u71, u72, u73, u74, u75, u76, u77, u78, u79, u80, u81, u82, u83, u84, u85, u86, u87, u88, u89, u90, u91, u92, u93, u94, u95, u96, u97, u98, u99, u100, u101, u102, u103, u104, u105, u106, u107, u108, u109, u110, u111, u112, u113, u114, u115, u116, u117, u118, u119, u120, u121, u122, u123, u124, u125, u126, u127, u128, u129, u130, u131, u132, u133, u134, u135, u136, u137], defers := [] } wr := by
  obtain ⟨k3, k4, k5, k2, k0, k0b, f0, f0b, f2, f3, f4, f5, f1, f1b, k1, A1, n1, C1, k1b⟩ := hM.cells
  have c1b : decide (i ≤ (a0.size : Int)) = true := decide_eq_true c1
  injection h with h
  injection h with e1 h
  injection h with e2 e3
  subst e1 e2 e3
  clear hK
  conv => arg 2; whnf
  go_wp2_with (first | (go_at_call 27; refine (close_calls (by first | exact hM | exact hM.drewN_ _) (by omega)).mono ?_; rintro e w2 ⟨rfl, hM2⟩; rw [ct] at hM2; obtain ⟨q3, q4, q5, q2, q0, q0b, g0, g0b, g2, g3, g4, g5, g1, g1b, q1, A2, n2, C2, q1b⟩ := hM2.cells) | (go_at_call 28; refine (wrong_calls _ _).mono ?_; rintro e w4 ⟨rfl, hb4⟩; have hM4 := PMem.below_ hM2 hb4; obtain ⟨r3, r4, r5, r2_, r0, r0b, s0, s0b, s2, s3, s4, s5, s1, s1b, p1, A4, n4, C4, p1b⟩ := hM4.cells) | go_in)
  all_goals (try dsimp +zetaDelta only [Exit.then, Exit.noGoto, Exit.inBlock])
  first | exact (bodyPost_ret (results_tc rfl _ _ w.heap.size 26 _ (0, 0) _ rfl (PMem.tell hM4 _ _).1 Try.underlying26 rfl info26s) rfl (DPost.mk (Kd.S_nil _ _ _ _ _) (PMem.tell hM4 _ _).2.1)) | exact hret _ _ (bodyPost_ret (results_tc rfl _ _ w.heap.size 26 _ (0, 0) _ rfl (PMem.tell hM4 _ _).1 Try.underlying26 rfl info26s) rfl (DPost.mk (Kd.S_nil _ _ _ _ _) (PMem.tell hM4 _ _).2.1))
end Go.Proofs.Ytahdgaaedilcmaa.P
/- depfile.Parse: cases of a round. -/
namespace Go.Proofs.Ytahdgaaedilcmaa.P
open Go.RowKit Go.Proofs.YtahdgaaedilcmaaW.PrintWords Go.Proofs.YtahdgaaedilcmaaW.PrintLast Go.Proofs.YtahdgaaedilcmaaW.PrintMore
set_option linter.unusedVariables false
set_option linter.unusedSimpArgs false
set_option maxHeartbeats 4000000 in
set_option maxRecDepth 1000000 in
theorem dp_Ee (a0 : ByteArray) (out : List S32) (rule : S32) (word : ByteArray) (inn tgt col : Bool) (i : Int) (vO u1 u2 u13 u14 u15 u16 u17 u18 u19 u20 u21 u22 u23 u24 u25 u26 u27 u28 u29 u30 u31 u32 u33 u34 u35 u36 u37 u38 u39 u40 u41 u42 u43 u44 u45 u46 u47 u48 u49 u50 u51 u52 u53 u54 u55 u56 u57 u58 u59 u60 u61 u62 u63 u64 u65 u66 u67 u68 u69 u70 u71 u72 u73 u74 u75 u76 u77 u78 u79 u80 u81 u82 u83 u84 u85 u86 u87 u88 u89 u90 u91 u92 u93 u94 u95 u96 u97 u98 u99 u100 u101 u102 u103 u104 u105 u106 u107 u108 u109 u110 u111 u112 u113 u114 u115 u116 u117 u118 u119 u120 u121 u122 u123 u124 u125 u126 u127 u128 u129 u130 u131 u132 u133 u134 u135 u136 u137 : Value) (m : Nat) (r1 : List S32) (r2 r3 : Int) (w wr : World) (K : Act → World → Prop) (Q : Exit → Act → World → Prop)
    (hM : PMem w w.heap.size vO out rule word inn tgt col wr) (b1 : 0 ≤ i) (b2 : i ≤ 32770) (b3 : out.length < 100000) (b4 : rule.f1.length < 100000) (b5 : word.size < 100000)
    (hK : ∀ a' w', DpSt a0 w r1 r2 r3 m a' w' → K a' w') (hret : ∀ a' w', bodyPost Try.prog Try.f12 (DPost r1 r2 r3 w) .ret a' w' → Q .ret a' w')
    (c1 : i ≤ (a0.size : Int)) (c3 : i < (a0.size : Int)) (c2a : (i == (a0.size : Int)) = false) (c2c : (bt a0 i == 10) = false) (hx : ∀ h : i.toNat < a0.size, ((a0[i.toNat]'h).toNat : Int) = bt a0 i) (c20 : decide (bt a0 i < 32) = false) (c21 : (bt a0 i == 32) = false) (c22 : (bt a0 i == 58) = false) (c23 : (bt a0 i == 92) = true) (c10 : (i + 1 == (a0.size : Int)) = true)
    (h : some ([], 6, i) = some (r1, r2, r3)) :
    Code.wp Try.prog dpBody (Exit.then K Q) { tmps := #[.string a0, u1, u2, .pointer (some ⟨w.heap.size, 0, none⟩), vO, .pointer (some ⟨w.heap.size + 1, 0, none⟩), .pointer (some ⟨w.heap.size + 2, 0, none⟩), .pointer (some ⟨w.heap.size + 3, 0, none⟩), .pointer (some ⟨w.heap.size + 4, 0, none⟩), .pointer (some ⟨w.heap.size + 5, 0, none⟩), .func (.func 27) #[] #[.pointer (some ⟨w.heap.size + 3, 0, none⟩), .pointer (some ⟨w.heap.size + 5, 0, none⟩), .pointer (some ⟨w.heap.size + 1, 0, none⟩), .pointer (some ⟨w.heap.size + 2, 0, none⟩), .pointer (some ⟨w.heap.size + 4, 0, none⟩)], .func (.func 28) #[] #[], .int .i64 i, u13, u14, u15, u16, u17, u18, u19, u20, u21, u22, u23, u24, u25, u26, u27, u28, u29, u30, u31, u32, u33, u34, u35, u36, u37, u38, u39, u40, u41, u42, u43, u44, u45, u46, u47, u48, u49, u50, u51, u52, u53, u54, u55, u56, u57, u58, u59, u60, u61, u62, u63, u64, u65, u66, u67, u68, u69, u70, u71, u72, u73, u74, u75, u76, u77, u78, u79, u80, u81, u82, u83, u84, u85, u86, u87, u88, u89, u90, u91, u92, u93, u94, u95, u96, u97, u98, u99, u100, u101, u102, u103, u104, u105, u106, u107, u108, u109, u110, u111, u112, u113, u114, u115, u116, u117, u118, u119, u120, u121, u122, u123, u124, u125, u126, u127, u128, u129, u130, u131, u132, u133, u134, u135, u136, u137], defers := [] } wr := by
  obtain ⟨k3, k4, k5, k2, k0, k0b, f0, f0b, f2, f3, f4, f5, f1, f1b, k1, A1, n1, C1, k1b⟩ := hM.cells
  have c1b : decide (i ≤ (a0.size : Int)) = true := decide_eq_true c1
  injection h with h
  injection h with e1 h
  injection h with e2 e3
  subst e1 e2 e3
  clear hK
  conv => arg 2; whnf
  go_wp2_with (first | (go_at_call 28; refine (wrong_calls _ _).mono ?_; rintro e w4 ⟨rfl, hb4⟩; have hM4 := PMem.below_ hM hb4; obtain ⟨r3, r4, r5, r2_, r0, r0b, s0, s0b, s2, s3, s4, s5, s1, s1b, p1, A4, n4, C4, p1b⟩ := hM4.cells) | go_in)
  all_goals (try dsimp +zetaDelta only [Exit.then, Exit.noGoto, Exit.inBlock])
  first | exact (bodyPost_ret (results_tc rfl _ _ w.heap.size 26 _ (0, 0) _ rfl (PMem.tell hM4 _ _).1 Try.underlying26 rfl info26s) rfl (DPost.mk (Kd.S_nil _ _ _ _ _) (PMem.tell hM4 _ _).2.1)) | exact hret _ _ (bodyPost_ret (results_tc rfl _ _ w.heap.size 26 _ (0, 0) _ rfl (PMem.tell hM4 _ _).1 Try.underlying26 rfl info26s) rfl (DPost.mk (Kd.S_nil _ _ _ _ _) (PMem.tell hM4 _ _).2.1))
set_option maxHeartbeats 4000000 in
set_option maxRecDepth 1000000 in
theorem dp_Ei (a0 : ByteArray) (out : List S32) (rule : S32) (word : ByteArray) (inn tgt col : Bool) (i : Int) (vO u1 u2 u13 u14 u15 u16 u17 u18 u19 u20 u21 u22 u23 u24 u25 u26 u27 u28 u29 u30 u31 u32 u33 u34 u35 u36 u37 u38 u39 u40 u41 u42 u43 u44 u45 u46 u47 u48 u49 u50 u51 u52 u53 u54 u55 u56 u57 u58 u59 u60 u61 u62 u63 u64 u65 u66 u67 u68 u69 u70 u71 u72 u73 u74 u75 u76 u77 u78 u79 u80 u81 u82 u83 u84 u85 u86 u87 u88 u89 u90 u91 u92 u93 u94 u95 u96 u97 u98 u99 u100 u101 u102 u103 u104 u105 u106 u107 u108 u109 u110 u111 u112 u113 u114 u115 u116 u117 u118 u119 u120 u121 u122 u123 u124 u125 u126 u127 u128 u129 u130 u131 u132 u133 u134 u135 u136 u137 : Value) (m : Nat) (r1 : List S32) (r2 r3 : Int) (w wr : World) (K : Act → World → Prop) (Q : Exit → Act → World → Prop)
    (hM : PMem w w.heap.size vO out rule word inn tgt col wr) (b1 : 0 ≤ i) (b2 : i ≤ 32770) (b3 : out.length < 100000) (b4 : rule.f1.length < 100000) (b5 : word.size < 100000)
    (hK : ∀ a' w', DpSt a0 w r1 r2 r3 m a' w' → K a' w') (hret : ∀ a' w', bodyPost Try.prog Try.f12 (DPost r1 r2 r3 w) .ret a' w' → Q .ret a' w')
    (c1 : i ≤ (a0.size : Int)) (c3 : i < (a0.size : Int)) (c2a : (i == (a0.size : Int)) = false) (c2c : (bt a0 i == 10) = false) (hx : ∀ h : i.toNat < a0.size, ((a0[i.toNat]'h).toNat : Int) = bt a0 i) (c20 : decide (bt a0 i < 32) = false) (c21 : (bt a0 i == 32) = false) (c22 : (bt a0 i == 58) = false) (c23 : (bt a0 i == 92) = true) (c9 : i + 1 < (a0.size : Int)) (c10 : (i + 1 == (a0.size : Int)) = false) (hy : ∀ h : (i + 1).toNat < a0.size, ((a0[(i + 1).toNat]'h).toNat : Int) = bt a0 (i + 1)) (c11 : escI (bt a0 (i + 1)) = false)
    (h : some ([], 6, i) = some (r1, r2, r3)) :
    Code.wp Try.prog dpBody (Exit.then K Q) { tmps := #[.string a0, u1, u2, .pointer (some ⟨w.heap.size, 0, none⟩), vO, .pointer (some ⟨w.heap.size + 1, 0, none⟩), .pointer (some ⟨w.heap.size + 2, 0, none⟩), .pointer (some ⟨w.heap.size + 3, 0, none⟩), .pointer (some ⟨w.heap.size + 4, 0, none⟩), .pointer (some ⟨w.heap.size + 5, 0, none⟩), .func (.func 27) #[] #[.pointer (some ⟨w.heap.size + 3, 0, none⟩), .pointer (some ⟨w.heap.size + 5, 0, none⟩), .pointer (some ⟨w.heap.size + 1, 0, none⟩), .pointer (some ⟨w.heap.size + 2, 0, none⟩), .pointer (some ⟨w.heap.size + 4, 0, none⟩)], .func (.func 28) #[] #[], .int .i64 i, u13, u14, u15, u16, u17, u18, u19, u20, u21, u22, u23, u24, u25, u26, u27, u28, u29, u30, u31, u32, u33, u34, u35, u36, u37, u38, u39, u40, u41, u42, u43, u44, u45, u46, u47, u48, u49, u50, u51, u52, u53, u54, u55, u56, u57, u58, u59, u60, u61, u62, u63, u64, u65, u66, u67, u68, u69, u70, u71, u72, u73, u74, u75, u76, u77, u78, u79, u80, u81, u82, u83, u84, u85, u86, u87, u88, u89, u90, u91, u92, u93, u94, u95, u96, u97, u98, u99, u100, u101, u102, u103, u104, u105, u106, u107, u108, u109, u110, u111, u112, u113, u114, u115, u116, u117, u118, u119, u120, u121, u122, u123, u124, u125, u126, u127, u128, u129, u130, u131, u132, u133, u134, u135, u136, u137], defers := [] } wr := by
  obtain ⟨k3, k4, k5, k2, k0, k0b, f0, f0b, f2, f3, f4, f5, f1, f1b, k1, A1, n1, C1, k1b⟩ := hM.cells
  have c1b : decide (i ≤ (a0.size : Int)) = true := decide_eq_true c1
  have hw32 : wrap32 (bt a0 (i + 1)) = bt a0 (i + 1) := wrap32_ (bt_range _ _).1 (bt_range _ _).2
  injection h with h
  injection h with e1 h
  injection h with e2 e3
  subst e1 e2 e3
  clear hK
  conv => arg 2; whnf
  go_wp2_with (first | (go_at_call 29; refine (containsRune_calls (bt a0 (i + 1)) _ (bt_range _ _).1 (by have := (bt_range a0 (i + 1)).2; omega)).mono ?_; rintro e w3 ⟨rfl, ⟨nd, rfl⟩⟩) | (go_at_call 28; refine (wrong_calls _ _).mono ?_; rintro e w4 ⟨rfl, hb4⟩; have hM4 := PMem.below_ (hM.drewN_ _) hb4; obtain ⟨r3, r4, r5, r2_, r0, r0b, s0, s0b, s2, s3, s4, s5, s1, s1b, p1, A4, n4, C4, p1b⟩ := hM4.cells) | go_in)
  all_goals (try dsimp +zetaDelta only [Exit.then, Exit.noGoto, Exit.inBlock])
  first | exact (bodyPost_ret (results_tc rfl _ _ w.heap.size 26 _ (0, 0) _ rfl (PMem.tell hM4 _ _).1 Try.underlying26 rfl info26s) rfl (DPost.mk (Kd.S_nil _ _ _ _ _) (PMem.tell hM4 _ _).2.1)) | exact hret _ _ (bodyPost_ret (results_tc rfl _ _ w.heap.size 26 _ (0, 0) _ rfl (PMem.tell hM4 _ _).1 Try.underlying26 rfl info26s) rfl (DPost.mk (Kd.S_nil _ _ _ _ _) (PMem.tell hM4 _ _).2.1))
set_option maxHeartbeats 4000000 in
set_option maxRecDepth 1000000 in
theorem dp_En (a0 : ByteArray) (out : List S32) (rule : S32) (word : ByteArray) (inn tgt col : Bool) (i : Int) (vO u1 u2 u13 u14 u15 u16 u17 u18 u19 u20 u21 u22 u23 u24 u25 u26 u27 u28 u29 u30 u31 u32 u33 u34 u35 u36 u37 u38 u39 u40 u41 u42 u43 u44 u45 u46 u47 u48 u49 u50 u51 u52 u53 u54 u55 u56 u57 u58 u59 u60 u61 u62 u63 u64 u65 u66 u67 u68 u69 u70 u71 u72 u73 u74 u75 u76 u77 u78 u79 u80 u81 u82 u83 u84 u85 u86 u87 u88 u89 u90 u91 u92 u93 u94 u95 u96 u97 u98 u99 u100 u101 u102 u103 u104 u105 u106 u107 u108 u109 u110 u111 u112 u113 u114 u115 u116 u117 u118 u119 u120 u121 u122 u123 u124 u125 u126 u127 u128 u129 u130 u131 u132 u133 u134 u135 u136 u137 : Value) (m : Nat) (r1 : List S32) (r2 r3 : Int) (w wr : World) (K : Act → World → Prop) (Q : Exit → Act → World → Prop)
    (hM : PMem w w.heap.size vO out rule word inn tgt col wr) (b1 : 0 ≤ i) (b2 : i ≤ 32770) (b3 : out.length < 100000) (b4 : rule.f1.length < 100000) (b5 : word.size < 100000)
    (hK : ∀ a' w', DpSt a0 w r1 r2 r3 m a' w' → K a' w') (hret : ∀ a' w', bodyPost Try.prog Try.f12 (DPost r1 r2 r3 w) .ret a' w' → Q .ret a' w')
    (c1 : i ≤ (a0.size : Int)) (c3 : i < (a0.size : Int)) (c2a : (i == (a0.size : Int)) = false) (c2c : (bt a0 i == 10) = false) (hx : ∀ h : i.toNat < a0.size, ((a0[i.toNat]'h).toNat : Int) = bt a0 i) (c20 : decide (bt a0 i < 32) = false) (c21 : (bt a0 i == 32) = false) (c22 : (bt a0 i == 58) = false) (c23 : (bt a0 i == 92) = true) (c9 : i + 1 < (a0.size : Int)) (c10 : (i + 1 == (a0.size : Int)) = false) (hy : ∀ h : (i + 1).toNat < a0.size, ((a0[(i + 1).toNat]'h).toNat : Int) = bt a0 (i + 1)) (c11 : escI (bt a0 (i + 1)) = true) (c12 : (bt a0 (i + 1) == 10) = true)
    (h : depfile_Parse.l0 m a0 out (closeRule rule word inn col) ⟨#[]⟩ false (closeTgt inn tgt col) col (i + 1 + 1) = some (r1, r2, r3)) :
    Code.wp Try.prog dpBody (Exit.then K Q) { tmps := #[.string a0, u1, u2, .pointer (some ⟨w.heap.size, 0, none⟩), vO, .pointer (some ⟨w.heap.size + 1, 0, none⟩), .pointer (some ⟨w.heap.size + 2, 0, none⟩), .pointer (some ⟨w.heap.size + 3, 0, none⟩), .pointer (some ⟨w.heap.size + 4, 0, none⟩), .pointer (some ⟨w.heap.size + 5, 0, none⟩), .func (.func 27) #[] #[.pointer (some ⟨w.heap.size + 3, 0, none⟩), .pointer (some ⟨w.heap.size + 5, 0, none⟩), .pointer (some ⟨w.heap.size + 1, 0, none⟩), .pointer (some ⟨w.heap.size + 2, 0, none⟩), .pointer (some ⟨w.heap.size + 4, 0, none⟩)], .func (.func 28) #[] #[], .int .i64 i, u13, u14, u15, u16, u17, u18, u19, u20, u21, u22, u23, u24, u25, u26, u27, u28, u29, u30, u31, u32, u33, u34, u35, u36, u37, u38, u39, u40, u41, u42, u43, u44, u45, u46, u47, u48, u49, u50, u51, u52, u53, u54, u55, u56, u57, u58, u59, u60, u61, u62, u63, u64, u65, u66, u67, u68, u69, u70, u71, u72, u73, u74, u75, u76, u77, u78, u79, u80, u81, u82, u83, u84, u85, u86, u87, u88, u89, u90, u91, u92, u93, u94, u95, u96, u97, u98, u99, u100, u101, u102, u103, u104, u105, u106, u107, u108, u109, u110, u111, u112, u113, u114, u115, u116, u117, u118, u119, u120, u121, u122, u123, u124, u125, u126, u127, u128, u129, u130, u131, u132, u133, u134, u135, u136, u137], defers := [] } wr := by
  obtain ⟨k3, k4, k5, k2, k0, k0b, f0, f0b, f2, f3, f4, f5, f1, f1b, k1, A1, n1, C1, k1b⟩ := hM.cells
  have c1b : decide (i ≤ (a0.size : Int)) = true := decide_eq_true c1
  have hw32 : wrap32 (bt a0 (i + 1)) = bt a0 (i + 1) := wrap32_ (bt_range _ _).1 (bt_range _ _).2
  have H' := Aside0.mk h
  clear h hret
  conv => arg 2; whnf
  go_wp2_with (first | (go_at_call 29; refine (containsRune_calls (bt a0 (i + 1)) _ (bt_range _ _).1 (by have := (bt_range a0 (i + 1)).2; omega)).mono ?_; rintro e w3 ⟨rfl, ⟨nd, rfl⟩⟩) | (go_at_call 27; refine (close_calls (by first | exact hM | exact hM.drewN_ _) (by omega)).mono ?_; rintro e w2 ⟨rfl, hM2⟩; obtain ⟨q3, q4, q5, q2, q0, q0b, g0, g0b, g2, g3, g4, g5, g1, g1b, q1, A2, n2, C2, q1b⟩ := hM2.cells) | go_in)
  all_goals exact DpSt.mk' _ _ _ _ _ _ _ _ _ _ _ _ _ _ _ _ _ _ _ _ _ _ _ _ _ _ _ _ _ _ _ _ _ _ _ _ _ _ _ _ _ _ _ _ _ _ _ _ _ _ _ _ _ _ _ _ _ _ _ _ _ _ _ _ _ _ _ _ _ _ _ _ _ _ _ _ _ _ _ _ _ _ _ _ _ _ _ _ _ _ _ _ _ _ _ _ _ _ _ _ _ _ _ _ _ _ _ _ _ _ _ _ _ _ _ _ _ _ _ _ _ _ _ _ _ _ _ _ _ _ _ _ _ _ _ H'.out hM2
set_option maxHeartbeats 4000000 in
set_option maxRecDepth 1000000 in
theorem dp_Gw (a0 : ByteArray) (out : List S32) (rule : S32) (word : ByteArray) (inn tgt : Bool) (i : Int) (vO u1 u2 u13 u14 u15 u16 u17 u18 u19 u20 u21 u22 u23 u24 u25 u26 u27 u28 u29 u30 u31 u32 u33 u34 u35 u36 u37 u38 u39 u40 u41 u42 u43 u44 u45 u46 u47 u48 u49 u50 u51 u52 u53 u54 u55 u56 u57 u58 u59 u60 u61 u62 u63 u64 u65 u66 u67 u68 u69 u70 u71 u72 u73 u74 u75 u76 u77 u78 u79 u80 u81 u82 u83 u84 u85 u86 u87 u88 u89 u90 u91 u92 u93 u94 u95 u96 u97 u98 u99 u100 u101 u102 u103 u104 u105 u106 u107 u108 u109 u110 u111 u112 u113 u114 u115 u116 u117 u118 u119 u120 u121 u122 u123 u124 u125 u126 u127 u128 u129 u130 u131 u132 u133 u134 u135 u136 u137 : Value) (m : Nat) (r1 : List S32) (r2 r3 : Int) (w wr : World) (K : Act → World → Prop) (Q : Exit → Act → World → Prop)
    (hM : PMem w w.heap.size vO out rule word inn tgt false wr) (b1 : 0 ≤ i) (b2 : i ≤ 32770) (b3 : out.length < 100000) (b4 : rule.f1.length < 100000) (b5 : word.size < 100000)
    (hK : ∀ a' w', DpSt a0 w r1 r2 r3 m a' w' → K a' w') (hret : ∀ a' w', bodyPost Try.prog Try.f12 (DPost r1 r2 r3 w) .ret a' w' → Q .ret a' w')
    (c1 : i ≤ (a0.size : Int)) (c3 : i < (a0.size : Int)) (c2a : (i == (a0.size : Int)) = false) (c2c : (bt a0 i == 10) = false) (hx : ∀ h : i.toNat < a0.size, ((a0[i.toNat]'h).toNat : Int) = bt a0 i) (c20 : decide (bt a0 i < 32) = false) (c21 : (bt a0 i == 32) = false) (c22 : (bt a0 i == 58) = false) (c23 : (bt a0 i == 92) = true) (c9 : i + 1 < (a0.size : Int)) (c10 : (i + 1 == (a0.size : Int)) = false) (hy : ∀ h : (i + 1).toNat < a0.size, ((a0[(i + 1).toNat]'h).toNat : Int) = bt a0 (i + 1)) (c11 : escI (bt a0 (i + 1)) = true) (c12 : (bt a0 (i + 1) == 10) = false) (d1 : inn = false) (d2 : tgt = true)
    (h : some ([], 6, i) = some (r1, r2, r3)) :
    Code.wp Try.prog dpBody (Exit.then K Q) { tmps := #[.string a0, u1, u2, .pointer (some ⟨w.heap.size, 0, none⟩), vO, .pointer (some ⟨w.heap.size + 1, 0, none⟩), .pointer (some ⟨w.heap.size + 2, 0, none⟩), .pointer (some ⟨w.heap.size + 3, 0, none⟩), .pointer (some ⟨w.heap.size + 4, 0, none⟩), .pointer (some ⟨w.heap.size + 5, 0, none⟩), .func (.func 27) #[] #[.pointer (some ⟨w.heap.size + 3, 0, none⟩), .pointer (some ⟨w.heap.size + 5, 0, none⟩), .pointer (some ⟨w.heap.size + 1, 0, none⟩), .pointer (some ⟨w.heap.size + 2, 0, none⟩), .pointer (some ⟨w.heap.size + 4, 0, none⟩)], .func (.func 28) #[] #[], .int .i64 i, u13, u14, u15, u16, u17, u18, u19, u20, u21, u22, u23, u24, u25, u26, u27, u28, u29, u30, u31, u32, u33, u34, u35, u36, u37, u38, u39, u40, u41, u42, u43, u44, u45, u46, u47, u48, u49, u50, u51, u52, u53, u54, u55, u56, u57, u58, u59, u60, u61, u62, u63, u64, u65, u66, u67, u68, u69, u70, u71, u72, u73, u74, u75, u76, u77, u78, u79, u80, u81, u82, u83, u84, u85, u86, u87, u88, u89, u90, u91, u92, u93, u94, u95, u96, u97, u98, u99, u100, u101, u102, u103, u104, u105, u106, u107, u108, u109, u110, u111, u112, u113, u114, u115, u116, u117, u118, u119, u120, u121, u122, u123, u124, u125, u126, u127, u128, u129, u130, u131, u132, u133, u134, u135, u136, u137], defers := [] } wr := by
  obtain ⟨k3, k4, k5, k2, k0, k0b, f0, f0b, f2, f3, f4, f5, f1, f1b, k1, A1, n1, C1, k1b⟩ := hM.cells
  have c1b : decide (i ≤ (a0.size : Int)) = true := decide_eq_true c1
  have hw32 : wrap32 (bt a0 (i + 1)) = bt a0 (i + 1) := wrap32_ (bt_range _ _).1 (bt_range _ _).2
  subst d1 d2
  injection h with h
  injection h with e1 h
  injection h with e2 e3
  subst e1 e2 e3
  clear hK
  conv => arg 2; whnf
  go_wp2_with (first | (go_at_call 29; refine (containsRune_calls (bt a0 (i + 1)) _ (bt_range _ _).1 (by have := (bt_range a0 (i + 1)).2; omega)).mono ?_; rintro e w3 ⟨rfl, ⟨nd, rfl⟩⟩) | (go_at_call 28; refine (wrong_calls _ _).mono ?_; rintro e w4 ⟨rfl, hb4⟩; have hM4 := PMem.below_ (hM.drewN_ _) hb4; obtain ⟨r3, r4, r5, r2_, r0, r0b, s0, s0b, s2, s3, s4, s5, s1, s1b, p1, A4, n4, C4, p1b⟩ := hM4.cells) | go_in)
  all_goals (try dsimp +zetaDelta only [Exit.then, Exit.noGoto, Exit.inBlock])
  first | exact (bodyPost_ret (results_tc rfl _ _ w.heap.size 26 _ (0, 0) _ rfl (PMem.tell hM4 _ _).1 Try.underlying26 rfl info26s) rfl (DPost.mk (Kd.S_nil _ _ _ _ _) (PMem.tell hM4 _ _).2.1)) | exact hret _ _ (bodyPost_ret (results_tc rfl _ _ w.heap.size 26 _ (0, 0) _ rfl (PMem.tell hM4 _ _).1 Try.underlying26 rfl info26s) rfl (DPost.mk (Kd.S_nil _ _ _ _ _) (PMem.tell hM4 _ _).2.1))
set_option maxHeartbeats 4000000 in
set_option maxRecDepth 1000000 in
theorem dp_Gi (a0 : ByteArray) (out : List S32) (rule : S32) (word : ByteArray) (inn tgt col : Bool) (i : Int) (vO u1 u2 u13 u14 u15 u16 u17 u18 u19 u20 u21 u22 u23 u24 u25 u26 u27 u28 u29 u30 u31 u32 u33 u34 u35 u36 u37 u38 u39 u40 u41 u42 u43 u44 u45 u46 u47 u48 u49 u50 u51 u52 u53 u54 u55 u56 u57 u58 u59 u60 u61 u62 u63 u64 u65 u66 u67 u68 u69 u70 u71 u72 u73 u74 u75 u76 u77 u78 u79 u80 u81 u82 u83 u84 u85 u86 u87 u88 u89 u90 u91 u92 u93 u94 u95 u96 u97 u98 u99 u100 u101 u102 u103 u104 u105 u106 u107 u108 u109 u110 u111 u112 u113 u114 u115 u116 u117 u118 u119 u120 u121 u122 u123 u124 u125 u126 u127 u128 u129 u130 u131 u132 u133 u134 u135 u136 u137 : Value) (m : Nat) (r1 : List S32) (r2 r3 : Int) (w wr : World) (K : Act → World → Prop) (Q : Exit → Act → World → Prop)
    (hM : PMem w w.heap.size vO out rule word inn tgt col wr) (b1 : 0 ≤ i) (b2 : i ≤ 32770) (b3 : out.length < 100000) (b4 : rule.f1.length < 100000) (b5 : word.size < 100000)
    (hK : ∀ a' w', DpSt a0 w r1 r2 r3 m a' w' → K a' w') (hret : ∀ a' w', bodyPost Try.prog Try.f12 (DPost r1 r2 r3 w) .ret a' w' → Q .ret a' w')
    (c1 : i ≤ (a0.size : Int)) (c3 : i < (a0.size : Int)) (c2a : (i == (a0.size : Int)) = false) (c2c : (bt a0 i == 10) = false) (hx : ∀ h : i.toNat < a0.size, ((a0[i.toNat]'h).toNat : Int) = bt a0 i) (c20 : decide (bt a0 i < 32) = false) (c21 : (bt a0 i == 32) = false) (c22 : (bt a0 i == 58) = false) (c23 : (bt a0 i == 92) = true) (c9 : i + 1 < (a0.size : Int)) (c10 : (i + 1 == (a0.size : Int)) = false) (hy : ∀ h : (i + 1).toNat < a0.size, ((a0[(i + 1).toNat]'h).toNat : Int) = bt a0 (i + 1)) (c11 : escI (bt a0 (i + 1)) = true) (c12 : (bt a0 (i + 1) == 10) = false) (d1 : inn = true)
    (h : depfile_Parse.l0 m a0 out rule (word ++ oneB (bt a0 (i + 1))) true tgt col (i + 1 + 1) = some (r1, r2, r3)) :
    Code.wp Try.prog dpBody (Exit.then K Q) { tmps := #[.string a0, u1, u2, .pointer (some ⟨w.heap.size, 0, none⟩), vO, .pointer (some ⟨w.heap.size + 1, 0, none⟩), .pointer (some ⟨w.heap.size + 2, 0, none⟩), .pointer (some ⟨w.heap.size + 3, 0, none⟩), .pointer (some ⟨w.heap.size + 4, 0, none⟩), .pointer (some ⟨w.heap.size + 5, 0, none⟩), .func (.func 27) #[] #[.pointer (some ⟨w.heap.size + 3, 0, none⟩), .pointer (some ⟨w.heap.size + 5, 0, none⟩), .pointer (some ⟨w.heap.size + 1, 0, none⟩), .pointer (some ⟨w.heap.size + 2, 0, none⟩), .pointer (some ⟨w.heap.size + 4, 0, none⟩)], .func (.func 28) #[] #[], .int .i64 i, u13, u14, u15, u16, u17, u18, u19, u20, u21, u22, u23, u24, u25, u26, u27, u28, u29, u30, u31, u32, u33, u34, u35, u36, u37, u38, u39, u40, u41, u42, u43, u44, u45, u46, u47, u48, u49, u50, u51, u52, u53, u54, u55, u56, u57, u58, u59, u60, u61, u62, u63, u64, u65, u66, u67, u68, u69, u70, u71, u72, u73, u74, u75, u76, u77, u78, u79, u80, u81, u82, u83, u84, u85, u86, u87, u88, u89, u90, u91, u92, u93, u94, u95, u96, u97, u98, u99, u100, u101, u102, u103, u104, u105, u106, u107, u108, u109, u110, u111, u112, u113, u114, u115, u116, u117, u118, u119, u120, u121, u122, u123, u124, u125, u126, u127, u128, u129, u130, u131, u132, u133, u134, u135, u136, u137], defers := [] } wr := by
  obtain ⟨k3, k4, k5, k2, k0, k0b, f0, f0b, f2, f3, f4, f5, f1, f1b, k1, A1, n1, C1, k1b⟩ := hM.cells
  have c1b : decide (i ≤ (a0.size : Int)) = true := decide_eq_true c1
  have hw32 : wrap32 (bt a0 (i + 1)) = bt a0 (i + 1) := wrap32_ (bt_range _ _).1 (bt_range _ _).2
  have hcv := fun (W : World) => conv_one W (bt a0 (i + 1)) (bt_range _ _).1 (bt_range _ _).2
  have hnl : (9223372036854775807 < word.size + (oneB (bt a0 (i + 1))).size) = False := eq_false (by rw [oneB, strOfNums_size]; simp; omega)
  subst d1
  have H' := Aside0.mk h
  clear h hret
  conv => arg 2; whnf
  go_wp2_with (first | (go_at_call 29; refine (containsRune_calls (bt a0 (i + 1)) _ (bt_range _ _).1 (by have := (bt_range a0 (i + 1)).2; omega)).mono ?_; rintro e w3 ⟨rfl, ⟨nd, rfl⟩⟩; have hMa := PMem.below_ (hM.drewN_ nd) ((Below.refl _ _).alloc (Nat.le_refl _) (.cells #[.int .u8 (bt a0 (i + 1))] 5)); obtain ⟨a3, a4, a5, a2, a00, a00b, ff0, ff0b, ff2, ff3, ff4, ff5, ff1, ff1b, a1, A5, n5, C5, a1b⟩ := hMa.cells; have hcv2 : (convert 35 9 (.slice (some ⟨wr.heap.size, 0, none⟩) 1 1)).run Try.prog ((wr.drewN nd).alloc (.cells #[.int .u8 (bt a0 (i + 1))] 5)) = .ok (.string (oneB (bt a0 (i + 1)))) ((wr.drewN nd).alloc (.cells #[.int .u8 (bt a0 (i + 1))] 5)) := hcv (wr.drewN nd)) | go_in)
  all_goals exact DpSt.mk' _ _ _ _ _ _ _ _ _ _ _ _ _ _ _ _ _ _ _ _ _ _ _ _ _ _ _ _ _ _ _ _ _ _ _ _ _ _ _ _ _ _ _ _ _ _ _ _ _ _ _ _ _ _ _ _ _ _ _ _ _ _ _ _ _ _ _ _ _ _ _ _ _ _ _ _ _ _ _ _ _ _ _ _ _ _ _ _ _ _ _ _ _ _ _ _ _ _ _ _ _ _ _ _ _ _ _ _ _ _ _ _ _ _ _ _ _ _ _ _ _ _ _ _ _ _ _ _ _ _ _ _ _ _ _ H'.out ((hMa.setWord _).setInn true)
set_option maxHeartbeats 4000000 in
set_option maxRecDepth 1000000 in
theorem dp_Gt (a0 : ByteArray) (out : List S32) (rule : S32) (word : ByteArray) (inn tgt col : Bool) (i : Int) (vO u1 u2 u13 u14 u15 u16 u17 u18 u19 u20 u21 u22 u23 u24 u25 u26 u27 u28 u29 u30 u31 u32 u33 u34 u35 u36 u37 u38 u39 u40 u41 u42 u43 u44 u45 u46 u47 u48 u49 u50 u51 u52 u53 u54 u55 u56 u57 u58 u59 u60 u61 u62 u63 u64 u65 u66 u67 u68 u69 u70 u71 u72 u73 u74 u75 u76 u77 u78 u79 u80 u81 u82 u83 u84 u85 u86 u87 u88 u89 u90 u91 u92 u93 u94 u95 u96 u97 u98 u99 u100 u101 u102 u103 u104 u105 u106 u107 u108 u109 u110 u111 u112 u113 u114 u115 u116 u117 u118 u119 u120 u121 u122 u123 u124 u125 u126 u127 u128 u129 u130 u131 u132 u133 u134 u135 u136 u137 : Value) (m : Nat) (r1 : List S32) (r2 r3 : Int) (w wr : World) (K : Act → World → Prop) (Q : Exit → Act → World → Prop)
    (hM : PMem w w.heap.size vO out rule word inn tgt col wr) (b1 : 0 ≤ i) (b2 : i ≤ 32770) (b3 : out.length < 100000) (b4 : rule.f1.length < 100000) (b5 : word.size < 100000)
    (hK : ∀ a' w', DpSt a0 w r1 r2 r3 m a' w' → K a' w') (hret : ∀ a' w', bodyPost Try.prog Try.f12 (DPost r1 r2 r3 w) .ret a' w' → Q .ret a' w')
    (c1 : i ≤ (a0.size : Int)) (c3 : i < (a0.size : Int)) (c2a : (i == (a0.size : Int)) = false) (c2c : (bt a0 i == 10) = false) (hx : ∀ h : i.toNat < a0.size, ((a0[i.toNat]'h).toNat : Int) = bt a0 i) (c20 : decide (bt a0 i < 32) = false) (c21 : (bt a0 i == 32) = false) (c22 : (bt a0 i == 58) = false) (c23 : (bt a0 i == 92) = true) (c9 : i + 1 < (a0.size : Int)) (c10 : (i + 1 == (a0.size : Int)) = false) (hy : ∀ h : (i + 1).toNat < a0.size, ((a0[(i + 1).toNat]'h).toNat : Int) = bt a0 (i + 1)) (c11 : escI (bt a0 (i + 1)) = true) (c12 : (bt a0 (i + 1) == 10) = false) (d1 : inn = false) (d2 : tgt = false)
    (h : depfile_Parse.l0 m a0 out rule (word ++ oneB (bt a0 (i + 1))) true tgt col (i + 1 + 1) = some (r1, r2, r3)) :
    Code.wp Try.prog dpBody (Exit.then K Q) { tmps := #[.string a0, u1, u2, .pointer (some ⟨w.heap.size, 0, none⟩), vO, .pointer (some ⟨w.heap.size + 1, 0, none⟩), .pointer (some ⟨w.heap.size + 2, 0, none⟩), .pointer (some ⟨w.heap.size + 3, 0, none⟩), .pointer (some ⟨w.heap.size + 4, 0, none⟩), .pointer (some ⟨w.heap.size + 5, 0, none⟩), .func (.func 27) #[] #[.pointer (some ⟨w.heap.size + 3, 0, none⟩), .pointer (some ⟨w.heap.size + 5, 0, none⟩), .pointer (some ⟨w.heap.size + 1, 0, none⟩), .pointer (some ⟨w.heap.size + 2, 0, none⟩), .pointer (some ⟨w.heap.size + 4, 0, none⟩)], .func (.func 28) #[] #[], .int .i64 i, u13, u14, u15, u16, u17, u18, u19, u20, u21, u22, u23, u24, u25, u26, u27, u28, u29, u30, u31, u32, u33, u34, u35, u36, u37, u38, u39, u40, u41, u42, u43, u44, u45, u46, u47, u48, u49, u50, u51, u52, u53, u54, u55, u56, u57, u58, u59, u60, u61, u62, u63, u64, u65, u66, u67, u68, u69, u70, u71, u72, u73, u74, u75, u76, u77, u78, u79, u80, u81, u82, u83, u84, u85, u86, u87, u88, u89, u90, u91, u92, u93, u94, u95, u96, u97, u98, u99, u100, u101, u102, u103, u104, u105, u106, u107, u108, u109, u110, u111, u112, u113, u114, u115, u116, u117, u118, u119, u120, u121, u122, u123, u124, u125, u126, u127, u128, u129, u130, u131, u132, u133, u134, u135, u136, u137], defers := [] } wr := by
  obtain ⟨k3, k4, k5, k2, k0, k0b, f0, f0b, f2, f3, f4, f5, f1, f1b, k1, A1, n1, C1, k1b⟩ := hM.cells
  have c1b : decide (i ≤ (a0.size : Int)) = true := decide_eq_true c1
  have hw32 : wrap32 (bt a0 (i + 1)) = bt a0 (i + 1) := wrap32_ (bt_range _ _).1 (bt_range _ _).2
  have hcv := fun (W : World) => conv_one W (bt a0 (i + 1)) (bt_range _ _).1 (bt_range _ _).2
  have hnl : (9223372036854775807 < word.size + (oneB (bt a0 (i + 1))).size) = False := eq_false (by rw [oneB, strOfNums_size]; simp; omega)
  subst d1 d2
  have H' := Aside0.mk h
  clear h hret
  conv => arg 2; whnf
  go_wp2_with (first | (go_at_call 29; refine (containsRune_calls (bt a0 (i + 1)) _ (bt_range _ _).1 (by have := (bt_range a0 (i + 1)).2; omega)).mono ?_; rintro e w3 ⟨rfl, ⟨nd, rfl⟩⟩; have hMa := PMem.below_ (hM.drewN_ nd) ((Below.refl _ _).alloc (Nat.le_refl _) (.cells #[.int .u8 (bt a0 (i + 1))] 5)); obtain ⟨a3, a4, a5, a2, a00, a00b, ff0, ff0b, ff2, ff3, ff4, ff5, ff1, ff1b, a1, A5, n5, C5, a1b⟩ := hMa.cells; have hcv2 : (convert 35 9 (.slice (some ⟨wr.heap.size, 0, none⟩) 1 1)).run Try.prog ((wr.drewN nd).alloc (.cells #[.int .u8 (bt a0 (i + 1))] 5)) = .ok (.string (oneB (bt a0 (i + 1)))) ((wr.drewN nd).alloc (.cells #[.int .u8 (bt a0 (i + 1))] 5)) := hcv (wr.drewN nd)) | go_in)
  all_goals exact DpSt.mk' _ _ _ _ _ _ _ _ _ _ _ _ _ _ _ _ _ _ _ _ _ _ _ _ _ _ _ _ _ _ _ _ _ _ _ _ _ _ _ _ _ _ _ _ _ _ _ _ _ _ _ _ _ _ _ _ _ _ _ _ _ _ _ _ _ _ _ _ _ _ _ _ _ _ _ _ _ _ _ _ _ _ _ _ _ _ _ _ _ _ _ _ _ _ _ _ _ _ _ _ _ _ _ _ _ _ _ _ _ _ _ _ _ _ _ _ _ _ _ _ _ _ _ _ _ _ _ _ _ _ _ _ _ _ _ H'.out ((hMa.setWord _).setInn true)
set_option maxHeartbeats 4000000 in
set_option maxRecDepth 1000000 in
theorem dp_Gc (a0 : ByteArray) (out : List S32) (rule : S32) (word : ByteArray) (inn tgt : Bool) (i : Int) (vO u1 u2 u13 u14 u15 u16 u17 u18 u19 u20 u21 u22 u23 u24 u25 u26 u27 u28 u29 u30 u31 u32 u33 u34 u35 u36 u37 u38 u39 u40 u41 u42 u43 u44 u45 u46 u47 u48 u49 u50 u51 u52 u53 u54 u55 u56 u57 u58 u59 u60 u61 u62 u63 u64 u65 u66 u67 u68 u69 u70 u71 u72 u73 u74 u75 u76 u77 u78 u79 u80 u81 u82 u83 u84 u85 u86 u87 u88 u89 u90 u91 u92 u93 u94 u95 u96 u97 u98 u99 u100 u101 u102 u103 u104 u105 u106 u107 u108 u109 u110 u111 u112 u113 u114 u115 u116 u117 u118 u119 u120 u121 u122 u123 u124 u125 u126 u127 u128 u129 u130 u131 u132 u133 u134 u135 u136 u137 : Value) (m : Nat) (r1 : List S32) (r2 r3 : Int) (w wr : World) (K : Act → World → Prop) (Q : Exit → Act → World → Prop)
    (hM : PMem w w.heap.size vO out rule word inn tgt true wr) (b1 : 0 ≤ i) (b2 : i ≤ 32770) (b3 : out.length < 100000) (b4 : rule.f1.length < 100000) (b5 : word.size < 100000)
    (hK : ∀ a' w', DpSt a0 w r1 r2 r3 m a' w' → K a' w') (hret : ∀ a' w', bodyPost Try.prog Try.f12 (DPost r1 r2 r3 w) .ret a' w' → Q .ret a' w')
    (c1 : i ≤ (a0.size : Int)) (c3 : i < (a0.size : Int)) (c2a : (i == (a0.size : Int)) = false) (c2c : (bt a0 i == 10) = false) (hx : ∀ h : i.toNat < a0.size, ((a0[i.toNat]'h).toNat : Int) = bt a0 i) (c20 : decide (bt a0 i < 32) = false) (c21 : (bt a0 i == 32) = false) (c22 : (bt a0 i == 58) = false) (c23 : (bt a0 i == 92) = true) (c9 : i + 1 < (a0.size : Int)) (c10 : (i + 1 == (a0.size : Int)) = false) (hy : ∀ h : (i + 1).toNat < a0.size, ((a0[(i + 1).toNat]'h).toNat : Int) = bt a0 (i + 1)) (c11 : escI (bt a0 (i + 1)) = true) (c12 : (bt a0 (i + 1) == 10) = false) (d1 : inn = false) (d2 : tgt = true)
    (h : depfile_Parse.l0 m a0 out rule (word ++ oneB (bt a0 (i + 1))) true tgt true (i + 1 + 1) = some (r1, r2, r3)) :
    Code.wp Try.prog dpBody (Exit.then K Q) { tmps := #[.string a0, u1, u2, .pointer (some ⟨w.heap.size, 0, none⟩), vO, .pointer (some ⟨w.heap.size + 1, 0, none⟩), .pointer (some ⟨w.heap.size + 2, 0, none⟩), .pointer (some ⟨w.heap.size + 3, 0, none⟩), .pointer (some ⟨w.heap.size + 4, 0, none⟩), .pointer (some ⟨w.heap.size + 5, 0, none⟩), .func (.func 27) #[] #[.pointer (some ⟨w.heap.size + 3, 0, none⟩), .pointer (some ⟨w.heap.size + 5, 0, none⟩), .pointer (some ⟨w.heap.size + 1, 0, none⟩), .pointer (some ⟨w.heap.size + 2, 0, none⟩), .pointer (some ⟨w.heap.size + 4, 0, none⟩)], .func (.func 28) #[] #[], .int .i64 i, u13, u14, u15, u16, u17, u18, u19, u20, u21, u22, u23, u24, u25, u26, u27, u28, u29, u30, u31, u32, u33, u34, u35, u36, u37, u38, u39, u40, u41, u42, u43, u44, u45, u46, u47, u48, u49, u50, u51, u52, u53, u54, u55, u56, u57, u58, u59, u60, u61, u62, u63, u64, u65, u66, u67, u68, u69, u70, u71, u72, u73, u74, u75, u76, u77, u78, u79, u80, u81, u82, u83, u84, u85, u86, u87, u88, u89, u90, u91, u92, u93, u94, u95, u96, u97, u98, u99, u100, u101, u102, u103, u104, u105, u106, u107, u108, u109, u110, u111, u112, u113, u114, u115, u116, u117, u118, u119, u120, u121, u122, u123, u124, u125, u126, u127, u128, u129, u130, u131, u132, u133, u134, u135, u136, u137], defers := [] } wr := by
  obtain ⟨k3, k4, k5, k2, k0, k0b, f0, f0b, f2, f3, f4, f5, f1, f1b, k1, A1, n1, C1, k1b⟩ := hM.cells
  have c1b : decide (i ≤ (a0.size : Int)) = true := decide_eq_true c1
  have hw32 : wrap32 (bt a0 (i + 1)) = bt a0 (i + 1) := wrap32_ (bt_range _ _).1 (bt_range _ _).2
  have hcv := fun (W : World) => conv_one W (bt a0 (i + 1)) (bt_range _ _).1 (bt_range _ _).2
  have hnl : (9223372036854775807 < word.size + (oneB (bt a0 (i + 1))).size) = False := eq_false (by rw [oneB, strOfNums_size]; simp; omega)
  subst d1 d2
  have H' := Aside0.mk h
  clear h hret
  conv => arg 2; whnf
  go_wp2_with (first | (go_at_call 29; refine (containsRune_calls (bt a0 (i + 1)) _ (bt_range _ _).1 (by have := (bt_range a0 (i + 1)).2; omega)).mono ?_; rintro e w3 ⟨rfl, ⟨nd, rfl⟩⟩; have hMa := PMem.below_ (hM.drewN_ nd) ((Below.refl _ _).alloc (Nat.le_refl _) (.cells #[.int .u8 (bt a0 (i + 1))] 5)); obtain ⟨a3, a4, a5, a2, a00, a00b, ff0, ff0b, ff2, ff3, ff4, ff5, ff1, ff1b, a1, A5, n5, C5, a1b⟩ := hMa.cells; have hcv2 : (convert 35 9 (.slice (some ⟨wr.heap.size, 0, none⟩) 1 1)).run Try.prog ((wr.drewN nd).alloc (.cells #[.int .u8 (bt a0 (i + 1))] 5)) = .ok (.string (oneB (bt a0 (i + 1)))) ((wr.drewN nd).alloc (.cells #[.int .u8 (bt a0 (i + 1))] 5)) := hcv (wr.drewN nd)) | go_in)
  all_goals exact DpSt.mk' _ _ _ _ _ _ _ _ _ _ _ _ _ _ _ _ _ _ _ _ _ _ _ _ _ _ _ _ _ _ _ _ _ _ _ _ _ _ _ _ _ _ _ _ _ _ _ _ _ _ _ _ _ _ _ _ _ _ _ _ _ _ _ _ _ _ _ _ _ _ _ _ _ _ _ _ _ _ _ _ _ _ _ _ _ _ _ _ _ _ _ _ _ _ _ _ _ _ _ _ _ _ _ _ _ _ _ _ _ _ _ _ _ _ _ _ _ _ _ _ _ _ _ _ _ _ _ _ _ _ _ _ _ _ _ H'.out ((hMa.setWord _).setInn true)
set_option maxHeartbeats 4000000 in
set_option maxRecDepth 1000000 in
theorem dp_Fw (a0 : ByteArray) (out : List S32) (rule : S32) (word : ByteArray) (inn tgt : Bool) (i : Int) (vO u1 u2 u13 u14 u15 u16 u17 u18 u19 u20 u21 u22 u23 u24 u25 u26 u27 u28 u29 u30 u31 u32 u33 u34 u35 u36 u37 u38 u39 u40 u41 u42 u43 u44 u45 u46 u47 u48 u49 u50 u51 u52 u53 u54 u55 u56 u57 u58 u59 u60 u61 u62 u63 u64 u65 u66 u67 u68 u69 u70 u71 u72 u73 u74 u75 u76 u77 u78 u79 u80 u81 u82 u83 u84 u85 u86 u87 u88 u89 u90 u91 u92 u93 u94 u95 u96 u97 u98 u99 u100 u101 u102 u103 u104 u105 u106 u107 u108 u109 u110 u111 u112 u113 u114 u115 u116 u117 u118 u119 u120 u121 u122 u123 u124 u125 u126 u127 u128 u129 u130 u131 u132 u133 u134 u135 u136 u137 : Value) (m : Nat) (r1 : List S32) (r2 r3 : Int) (w wr : World) (K : Act → World → Prop) (Q : Exit → Act → World → Prop)
    (hM : PMem w w.heap.size vO out rule word inn tgt false wr) (b1 : 0 ≤ i) (b2 : i ≤ 32770) (b3 : out.length < 100000) (b4 : rule.f1.length < 100000) (b5 : word.size < 100000)
    (hK : ∀ a' w', DpSt a0 w r1 r2 r3 m a' w' → K a' w') (hret : ∀ a' w', bodyPost Try.prog Try.f12 (DPost r1 r2 r3 w) .ret a' w' → Q .ret a' w')
    (c1 : i ≤ (a0.size : Int)) (c3 : i < (a0.size : Int)) (c2a : (i == (a0.size : Int)) = false) (c2c : (bt a0 i == 10) = false) (hx : ∀ h : i.toNat < a0.size, ((a0[i.toNat]'h).toNat : Int) = bt a0 i) (c20 : decide (bt a0 i < 32) = false) (c21 : (bt a0 i == 32) = false) (c22 : (bt a0 i == 58) = false) (c23 : (bt a0 i == 92) = false) (d1 : inn = false) (d2 : tgt = true)
    (h : some ([], 6, i) = some (r1, r2, r3)) :
    Code.wp Try.prog dpBody (Exit.then K Q) { tmps := #[.string a0, u1, u2, .pointer (some ⟨w.heap.size, 0, none⟩), vO, .pointer (some ⟨w.heap.size + 1, 0, none⟩), .pointer (some ⟨w.heap.size + 2, 0, none⟩), .pointer (some ⟨w.heap.size + 3, 0, none⟩), .pointer (some ⟨w.heap.size + 4, 0, none⟩), .pointer (some ⟨w.heap.size + 5, 0, none⟩), .func (.func 27) #[] #[.pointer (some ⟨w.heap.size + 3, 0, none⟩), .pointer (some ⟨w.heap.size + 5, 0, none⟩), .pointer (some ⟨w.heap.size + 1, 0, none⟩), .pointer (some ⟨w.heap.size + 2, 0, none⟩), .pointer (some ⟨w.heap.size + 4, 0, none⟩)], .func (.func 28) #[] #[], .int .i64 i, u13, u14, u15, u16, u17, u18, u19, u20, u21, u22, u23, u24, u25, u26, u27, u28, u29, u30, u31, u32, u33, u34, u35, u36, u37, u38, u39, u40, u41, u42, u43, u44, u45, u46, u47, u48, u49, u50, u51, u52, u53, u54, u55, u56, u57, u58, u59, u60, u61, u62, u63, u64, u65, u66, u67, u68, u69, u70, u71, u72, u73, u74, u75, u76, u77, u78, u79, u80, u81, u82, u83, u84, u85, u86, u87, u88, u89, u90, u91, u92, u93, u94, u95, u96, u97, u98, u99, u100, u101, u102, u103, u104, u105, u106, u107, u108, u109, u110, u111, u112, u113, u114, u115, u116, u117, u118, u119, u120, u121, u122, u123, u124, u125, u126, u127, u128, u129, u130, u131, u132, u133, u134, u135, u136, u137], defers := [] } wr := by
  obtain ⟨k3, k4, k5, k2, k0, k0b, f0, f0b, f2, f3, f4, f5, f1, f1b, k1, A1, n1, C1, k1b⟩ := hM.cells
  have c1b : decide (i ≤ (a0.size : Int)) = true := decide_eq_true c1
  have hw32 : wrap32 (bt a0 (i + 1)) = bt a0 (i + 1) := wrap32_ (bt_range _ _).1 (bt_range _ _).2
  subst d1 d2
  injection h with h
  injection h with e1 h
  injection h with e2 e3
  subst e1 e2 e3
  clear hK
  conv => arg 2; whnf
  go_wp2_with (first | (go_at_call 28; refine (wrong_calls _ _).mono ?_; rintro e w4 ⟨rfl, hb4⟩; have hM4 := PMem.below_ hM hb4; obtain ⟨r3, r4, r5, r2_, r0, r0b, s0, s0b, s2, s3, s4, s5, s1, s1b, p1, A4, n4, C4, p1b⟩ := hM4.cells) | go_in)
  all_goals (try dsimp +zetaDelta only [Exit.then, Exit.noGoto, Exit.inBlock])
  first | exact (bodyPost_ret (results_tc rfl _ _ w.heap.size 26 _ (0, 0) _ rfl (PMem.tell hM4 _ _).1 Try.underlying26 rfl info26s) rfl (DPost.mk (Kd.S_nil _ _ _ _ _) (PMem.tell hM4 _ _).2.1)) | exact hret _ _ (bodyPost_ret (results_tc rfl _ _ w.heap.size 26 _ (0, 0) _ rfl (PMem.tell hM4 _ _).1 Try.underlying26 rfl info26s) rfl (DPost.mk (Kd.S_nil _ _ _ _ _) (PMem.tell hM4 _ _).2.1))
set_option maxHeartbeats 4000000 in
set_option maxRecDepth 1000000 in
theorem dp_Fi (a0 : ByteArray) (out : List S32) (rule : S32) (word : ByteArray) (inn tgt col : Bool) (i : Int) (vO u1 u2 u13 u14 u15 u16 u17 u18 u19 u20 u21 u22 u23 u24 u25 u26 u27 u28 u29 u30 u31 u32 u33 u34 u35 u36 u37 u38 u39 u40 u41 u42 u43 u44 u45 u46 u47 u48 u49 u50 u51 u52 u53 u54 u55 u56 u57 u58 u59 u60 u61 u62 u63 u64 u65 u66 u67 u68 u69 u70 u71 u72 u73 u74 u75 u76 u77 u78 u79 u80 u81 u82 u83 u84 u85 u86 u87 u88 u89 u90 u91 u92 u93 u94 u95 u96 u97 u98 u99 u100 u101 u102 u103 u104 u105 u106 u107 u108 u109 u110 u111 u112 u113 u114 u115 u116 u117 u118 u119 u120 u121 u122 u123 u124 u125 u126 u127 u128 u129 u130 u131 u132 u133 u134 u135 u136 u137 : Value) (m : Nat) (r1 : List S32) (r2 r3 : Int) (w wr : World) (K : Act → World → Prop) (Q : Exit → Act → World → Prop)
    (hM : PMem w w.heap.size vO out rule word inn tgt col wr) (b1 : 0 ≤ i) (b2 : i ≤ 32770) (b3 : out.length < 100000) (b4 : rule.f1.length < 100000) (b5 : word.size < 100000)
    (hK : ∀ a' w', DpSt a0 w r1 r2 r3 m a' w' → K a' w') (hret : ∀ a' w', bodyPost Try.prog Try.f12 (DPost r1 r2 r3 w) .ret a' w' → Q .ret a' w')
    (c1 : i ≤ (a0.size : Int)) (c3 : i < (a0.size : Int)) (c2a : (i == (a0.size : Int)) = false) (c2c : (bt a0 i == 10) = false) (hx : ∀ h : i.toNat < a0.size, ((a0[i.toNat]'h).toNat : Int) = bt a0 i) (c20 : decide (bt a0 i < 32) = false) (c21 : (bt a0 i == 32) = false) (c22 : (bt a0 i == 58) = false) (c23 : (bt a0 i == 92) = false) (d1 : inn = true)
    (h : depfile_Parse.l0 m a0 out rule (word ++ oneB (bt a0 i)) true tgt col (i + 1) = some (r1, r2, r3)) :
    Code.wp Try.prog dpBody (Exit.then K Q) { tmps := #[.string a0, u1, u2, .pointer (some ⟨w.heap.size, 0, none⟩), vO, .pointer (some ⟨w.heap.size + 1, 0, none⟩), .pointer (some ⟨w.heap.size + 2, 0, none⟩), .pointer (some ⟨w.heap.size + 3, 0, none⟩), .pointer (some ⟨w.heap.size + 4, 0, none⟩), .pointer (some ⟨w.heap.size + 5, 0, none⟩), .func (.func 27) #[] #[.pointer (some ⟨w.heap.size + 3, 0, none⟩), .pointer (some ⟨w.heap.size + 5, 0, none⟩), .pointer (some ⟨w.heap.size + 1, 0, none⟩), .pointer (some ⟨w.heap.size + 2, 0, none⟩), .pointer (some ⟨w.heap.size + 4, 0, none⟩)], .func (.func 28) #[] #[], .int .i64 i, u13, u14, u15, u16, u17, u18, u19, u20, u21, u22, u23, u24, u25, u26, u27, u28, u29, u30, u31, u32, u33, u34, u35, u36, u37, u38, u39, u40, u41, u42, u43, u44, u45, u46, u47, u48, u49, u50, u51, u52, u53, u54, u55, u56, u57, u58, u59, u60, u61, u62, u63, u64, u65, u66, u67, u68, u69, u70, u71, u72, u73, u74, u75, u76, u77, u78, u79, u80, u81, u82, u83, u84, u85, u86, u87, u88, u89, u90, u91, u92, u93, u94, u95, u96, u97, u98, u99, u100, u101, u102, u103, u104, u105, u106, u107, u108, u109, u110, u111, u112, u113, u114, u115, u116, u117, u118, u119, u120, u121, u122, u123, u124, u125, u126, u127, u128, u129, u130, u131, u132, u133, u134, u135, u136, u137], defers := [] } wr := by
  obtain ⟨k3, k4, k5, k2, k0, k0b, f0, f0b, f2, f3, f4, f5, f1, f1b, k1, A1, n1, C1, k1b⟩ := hM.cells
  have c1b : decide (i ≤ (a0.size : Int)) = true := decide_eq_true c1
  have hw32 : wrap32 (bt a0 (i + 1)) = bt a0 (i + 1) := wrap32_ (bt_range _ _).1 (bt_range _ _).2
  have hcv := fun (W : World) => conv_one W (bt a0 i) (bt_range _ _).1 (bt_range _ _).2
  have hnl : (9223372036854775807 < word.size + (oneB (bt a0 i)).size) = False := eq_false (by rw [oneB, strOfNums_size]; simp; omega)
  have hMa := PMem.below_ hM ((Below.refl _ _).alloc (Nat.le_refl _) (.cells #[.int .u8 (bt a0 i)] 5))
  obtain ⟨a3, a4, a5, a2, a00, a00b, ff0, ff0b, ff2, ff3, ff4, ff5, ff1, ff1b, a1, A5, n5, C5, a1b⟩ := hMa.cells
  subst d1
  have H' := Aside0.mk h
  clear h hret
  conv => arg 2; whnf
  go_wp2_with (first | go_in)
  all_goals exact DpSt.mk' _ _ _ _ _ _ _ _ _ _ _ _ _ _ _ _ _ _ _ _ _ _ _ _ _ _ _ _ _ _ _ _ _ _ _ _ _ _ _ _ _ _ _ _ _ _ _ _ _ _ _ _ _ _ _ _ _ _ _ _ _ _ _ _ _ _ _ _ _ _ _ _ _ _ _ _ _ _ _ _ _ _ _ _ _ _ _ _ _ _ _ _ _ _ _ _ _ _ _ _ _ _ _ _ _ _ _ _ _ _ _ _ _ _ _ _ _ _ _ _ _ _ _ _ _ _ _ _ _ _ _ _ _ _ _ H'.out ((hMa.setWord _).setInn true)
set_option maxHeartbeats 4000000 in
set_option maxRecDepth 1000000 in
theorem dp_Ft (a0 : ByteArray) (out : List S32) (rule : S32) (word : ByteArray) (inn tgt col : Bool) (i : Int) (vO u1 u2 u13 u14 u15 u16 u17 u18 u19 u20 u21 u22 u23 u24 u25 u26 u27 u28 u29 u30 u31 u32 u33 u34 u35 u36 u37 u38 u39 u40 u41 u42 u43 u44 u45 u46 u47 u48 u49 u50 u51 u52 u53 u54 u55 u56 u57 u58 u59 u60 u61 u62 u63 u64 u65 u66 u67 u68 u69 u70 u71 u72 u73 u74 u75 u76 u77 u78 u79 u80 u81 u82 u83 u84 u85 u86 u87 u88 u89 u90 u91 u92 u93 u94 u95 u96 u97 u98 u99 u100 u101 u102 u103 u104 u105 u106 u107 u108 u109 u110 u111 u112 u113 u114 u115 u116 u117 u118 u119 u120 u121 u122 u123 u124 u125 u126 u127 u128 u129 u130 u131 u132 u133 u134 u135 u136 u137 : Value) (m : Nat) (r1 : List S32) (r2 r3 : Int) (w wr : World) (K : Act → World → Prop) (Q : Exit → Act → World → Prop)
    (hM : PMem w w.heap.size vO out rule word inn tgt col wr) (b1 : 0 ≤ i) (b2 : i ≤ 32770) (b3 : out.length < 100000) (b4 : rule.f1.length < 100000) (b5 : word.size < 100000)
    (hK : ∀ a' w', DpSt a0 w r1 r2 r3 m a' w' → K a' w') (hret : ∀ a' w', bodyPost Try.prog Try.f12 (DPost r1 r2 r3 w) .ret a' w' → Q .ret a' w')
    (c1 : i ≤ (a0.size : Int)) (c3 : i < (a0.size : Int)) (c2a : (i == (a0.size : Int)) = false) (c2c : (bt a0 i == 10) = false) (hx : ∀ h : i.toNat < a0.size, ((a0[i.toNat]'h).toNat : Int) = bt a0 i) (c20 : decide (bt a0 i < 32) = false) (c21 : (bt a0 i == 32) = false) (c22 : (bt a0 i == 58) = false) (c23 : (bt a0 i == 92) = false) (d1 : inn = false) (d2 : tgt = false)
    (h : depfile_Parse.l0 m a0 out rule (word ++ oneB (bt a0 i)) true tgt col (i + 1) = some (r1, r2, r3)) :
    Code.wp Try.prog dpBody (Exit.then K Q) { tmps := #[.string a0, u1, u2, .pointer (some ⟨w.heap.size, 0, none⟩), vO, .pointer (some ⟨w.heap.size + 1, 0, none⟩), .pointer (some ⟨w.heap.size + 2, 0, none⟩), .pointer (some ⟨w.heap.size + 3, 0, none⟩), .pointer (some ⟨w.heap.size + 4, 0, none⟩), .pointer (some ⟨w.heap.size + 5, 0, none⟩), .func (.func 27) #[] #[.pointer (some ⟨w.heap.size + 3, 0, none⟩), .pointer (some ⟨w.heap.size + 5, 0, none⟩), .pointer (some ⟨w.heap.size + 1, 0, none⟩), .pointer (some ⟨w.heap.size + 2, 0, none⟩), .pointer (some ⟨w.heap.size + 4, 0, none⟩)], .func (.func 28) #[] #[], .int .i64 i, u13, u14, u15, u16, u17, u18, u19, u20, u21, u22, u23, u24, u25, u26, u27, u28, u29, u30, u31, u32, u33, u34, u35, u36, u37, u38, u39, u40, u41, u42, u43, u44, u45, u46, u47, u48, u49, u50, u51, u52, u53, u54, u55, u56, u57, u58, u59, u60, u61, u62, u63, u64, u65, u66, u67, u68, u69, u70, u71, u72, u73, u74, u75, u76, u77, u78, u79, u80, u81, u82, u83, u84, u85, u86, u87, u88, u89, u90, u91, u92, u93, u94, u95, u96, u97, u98, u99, u100, u101, u102, u103, u104, u105, u106, u107, u108, u109, u110, u111, u112, u113, u114, u115, u116, u117, u118, u119, u120, u121, u122, u123, u124, u125, u126, u127, u128, u129, u130, u131, u132, u133, u134, u135, u136, u137], defers := [] } wr := by
  obtain ⟨k3, k4, k5, k2, k0, k0b, f0, f0b, f2, f3, f4, f5, f1, f1b, k1, A1, n1, C1, k1b⟩ := hM.cells
  have c1b : decide (i ≤ (a0.size : Int)) = true := decide_eq_true c1
  have hw32 : wrap32 (bt a0 (i + 1)) = bt a0 (i + 1) := wrap32_ (bt_range _ _).1 (bt_range _ _).2
  have hcv := fun (W : World) => conv_one W (bt a0 i) (bt_range _ _).1 (bt_range _ _).2
  have hnl : (9223372036854775807 < word.size + (oneB (bt a0 i)).size) = False := eq_false (by rw [oneB, strOfNums_size]; simp; omega)
  have hMa := PMem.below_ hM ((Below.refl _ _).alloc (Nat.le_refl _) (.cells #[.int .u8 (bt a0 i)] 5))
  obtain ⟨a3, a4, a5, a2, a00, a00b, ff0, ff0b, ff2, ff3, ff4, ff5, ff1, ff1b, a1, A5, n5, C5, a1b⟩ := hMa.cells
  subst d1 d2
  have H' := Aside0.mk h
  clear h hret
  conv => arg 2; whnf
  go_wp2_with (first | go_in)
  all_goals exact DpSt.mk' _ _ _ _ _ _ _ _ _ _ _ _ _ _ _ _ _ _ _ _ _ _ _ _ _ _ _ _ _ _ _ _ _ _ _ _ _ _ _ _ _ _ _ _ _ _ _ _ _ _ _ _ _ _ _ _ _ _ _ _ _ _ _ _ _ _ _ _ _ _ _ _ _ _ _ _ _ _ _ _ _ _ _ _ _ _ _ _ _ _ _ _ _ _ _ _ _ _ _ _ _ _ _ _ _ _ _ _ _ _ _ _ _ _ _ _ _ _ _ _ _ _ _ _ _ _ _ _ _ _ _ _ _ _ _ H'.out ((hMa.setWord _).setInn true)
set_option maxHeartbeats 4000000 in
set_option maxRecDepth 1000000 in
theorem dp_Fc (a0 : ByteArray) (out : List S32) (rule : S32) (word : ByteArray) (inn tgt : Bool) (i : Int) (vO u1 u2 u13 u14 u15 u16 u17 u18 u19 u20 u21 u22 u23 u24 u25 u26 u27 u28 u29 u30 u31 u32 u33 u34 u35 u36 u37 u38 u39 u40 u41 u42 u43 u44 u45 u46 u47 u48 u49 u50 u51 u52 u53 u54 u55 u56 u57 u58 u59 u60 u61 u62 u63 u64 u65 u66 u67 u68 u69 u70 u71 u72 u73 u74 u75 u76 u77 u78 u79 u80 u81 u82 u83 u84 u85 u86 u87 u88 u89 u90 u91 u92 u93 u94 u95 u96 u97 u98 u99 u100 u101 u102 u103 u104 u105 u106 u107 u108 u109 u110 u111 u112 u113 u114 u115 u116 u117 u118 u119 u120 u121 u122 u123 u124 u125 u126 u127 u128 u129 u130 u131 u132 u133 u134 u135 u136 u137 : Value) (m : Nat) (r1 : List S32) (r2 r3 : Int) (w wr : World) (K : Act → World → Prop) (Q : Exit → Act → World → Prop)
    (hM : PMem w w.heap.size vO out rule word inn tgt true wr) (b1 : 0 ≤ i) (b2 : i ≤ 32770) (b3 : out.length < 100000) (b4 : rule.f1.length < 100000) (b5 : word.size < 100000)
    (hK : ∀ a' w', DpSt a0 w r1 r2 r3 m a' w' → K a' w') (hret : ∀ a' w', bodyPost Try.prog Try.f12 (DPost r1 r2 r3 w) .ret a' w' → Q .ret a' w')
    (c1 : i ≤ (a0.size : Int)) (c3 : i < (a0.size : Int)) (c2a : (i == (a0.size : Int)) = false) (c2c : (bt a0 i == 10) = false) (hx : ∀ h : i.toNat < a0.size, ((a0[i.toNat]'h).toNat : Int) = bt a0 i) (c20 : decide (bt a0 i < 32) = false) (c21 : (bt a0 i == 32) = false) (c22 : (bt a0 i == 58) = false) (c23 : (bt a0 i == 92) = false) (d1 : inn = false) (d2 : tgt = true)
    (h : depfile_Parse.l0 m a0 out rule (word ++ oneB (bt a0 i)) true tgt true (i + 1) = some (r1, r2, r3)) :
    Code.wp Try.prog dpBody (Exit.then K Q) { tmps := #[.string a0, u1, u2, .pointer (some ⟨w.heap.size, 0, none⟩), vO, .pointer (some ⟨w.heap.size + 1, 0, none⟩), .pointer (some ⟨w.heap.size + 2, 0, none⟩), .pointer (some ⟨w.heap.size + 3, 0, none⟩), .pointer (some ⟨w.heap.size + 4, 0, none⟩), .pointer (some ⟨w.heap.size + 5, 0, none⟩), .func (.func 27) #[] #[.pointer (some ⟨w.heap.size + 3, 0, none⟩), .pointer (some ⟨w.heap.size + 5, 0, none⟩), .pointer (some ⟨w.heap.size + 1, 0, none⟩), .pointer (some ⟨w.heap.size + 2, 0, none⟩), .pointer (some ⟨w.heap.size + 4, 0, none⟩)], .func (.func 28) #[] #[], .int .i64 i, u13, u14, u15, u16, u17, u18, u19, u20, u21, u22, u23, u24, u25, u26, u27, u28, u29, u30, u31, u32, u33, u34, u35, u36, u37, u38, u39, u40, u41, u42, u43, u44, u45, u46, u47, u48, u49, u50, u51, u52, u53, u54, u55, u56, u57, u58, u59, u60, u61, u62, u63, u64, u65, u66, u67, u68, u69, u70, u71, u72, u73, u74, u75, u76, u77, u78, u79, u80, u81, u82, u83, u84, u85, u86, u87, u88, u89, u90, u91, u92, u93, u94, u95, u96, u97, u98, u99, u100, u101, u102, u103, u104, u105, u106, u107, u108, u109, u110, u111, u112, u113, u114, u115, u116, u117, u118, u119, u120, u121, u122, u123, u124, u125, u126, u127, u128, u129, u130, u131, u132, u133, u134, u135, u136, u137], defers := [] } wr := by
  obtain ⟨k3, k4, k5, k2, k0, k0b, f0, f0b, f2, f3, f4, f5, f1, f1b, k1, A1, n1, C1, k1b⟩ := hM.cells
  have c1b : decide (i ≤ (a0.size : Int)) = true := decide_eq_true c1
  have hw32 : wrap32 (bt a0 (i + 1)) = bt a0 (i + 1) := wrap32_ (bt_range _ _).1 (bt_range _ _).2
  have hcv := fun (W : World) => conv_one W (bt a0 i) (bt_range _ _).1 (bt_range _ _).2
  have hnl : (9223372036854775807 < word.size + (oneB (bt a0 i)).size) = False := eq_false (by rw [oneB, strOfNums_size]; simp; omega)
  have hMa := PMem.below_ hM ((Below.refl _ _).alloc (Nat.le_refl _) (.cells #[.int .u8 (bt a0 i)] 5))
  obtain ⟨a3, a4, a5, a2, a00, a00b, ff0, ff0b, ff2, ff3, ff4, ff5, ff1, ff1b, a1, A5, n5, C5, a1b⟩ := hMa.cells
  subst d1 d2
  have H' := Aside0.mk h
  clear h hret
  conv => arg 2; whnf
  go_wp2_with (first | go_in)
  all_goals exact DpSt.mk' _ _ _ _ _ _ _ _ _ _ _ _ _ _ _ _ _ _ _ _ _ _ _ _ _ _ _ _ _ _ _ _ _ _ _ _ _ _ _ _ _ _ _ _ _ _ _ _ _ _ _ _ _ _ _ _ _ _ _ _ _ _ _ _ _ _ _ _ _ _ _ _ _ _ _ _ _ _ _ _ _ _ _ _ _ _ _ _ _ _ _ _ _ _ _ _ _ _ _ _ _ _ _ _ _ _ _ _ _ _ _ _ _ _ _ _ _ _ _ _ _ _ _ _ _ _ _ _ _ _ _ _ _ _ _ H'.out ((hMa.setWord _).setInn true)
end Go.Proofs.Ytahdgaaedilcmaa.P
/- depfile.Parse: the way out of the loop. -/
namespace Go.Proofs.Ytahdgaaedilcmaa.P
open Go.RowKit Go.Proofs.YtahdgaaedilcmaaW.PrintWords Go.Proofs.YtahdgaaedilcmaaW.PrintLast Go.Proofs.YtahdgaaedilcmaaW.PrintMore
set_option linter.unusedVariables false
set_option linter.unusedSimpArgs false
set_option maxHeartbeats 4000000 in
set_option maxRecDepth 1000000 in
theorem dp_Z (a0 : ByteArray) (out : List S32) (rule : S32) (word : ByteArray) (inn tgt col : Bool) (i : Int) (vO u1 u2 u13 u14 u15 u16 u17 u18 u19 u20 u21 u22 u23 u24 u25 u26 u27 u28 u29 u30 u31 u32 u33 u34 u35 u36 u37 u38 u39 u40 u41 u42 u43 u44 u45 u46 u47 u48 u49 u50 u51 u52 u53 u54 u55 u56 u57 u58 u59 u60 u61 u62 u63 u64 u65 u66 u67 u68 u69 u70 u71 u72 u73 u74 u75 u76 u77 u78 u79 u80 u81 u82 u83 u84 u85 u86 u87 u88 u89 u90 u91 u92 u93 u94 u95 u96 u97 u98 u99 u100 u101 u102 u103 u104 u105 u106 u107 u108 u109 u110 u111 u112 u113 u114 u115 u116 u117 u118 u119 u120 u121 u122 u123 u124 u125 u126 u127 u128 u129 u130 u131 u132 u133 u134 u135 u136 u137 : Value) (r1 : List S32) (r2 r3 : Int) (w wr : World) (K : Act → World → Prop) (Q : Exit → Act → World → Prop)
    (hM : PMem w w.heap.size vO out rule word inn tgt col wr) (hexit : ∀ a' w', DpEnd w r1 r2 r3 a' w' → Q (.exit 0) a' w') (c1 : ¬ i ≤ (a0.size : Int)) (h : some (out, (0 : Int), (0 : Int)) = some (r1, r2, r3)) :
    Code.wp Try.prog dpBody (Exit.then K Q) { tmps := #[.string a0, u1, u2, .pointer (some ⟨w.heap.size, 0, none⟩), vO, .pointer (some ⟨w.heap.size + 1, 0, none⟩), .pointer (some ⟨w.heap.size + 2, 0, none⟩), .pointer (some ⟨w.heap.size + 3, 0, none⟩), .pointer (some ⟨w.heap.size + 4, 0, none⟩), .pointer (some ⟨w.heap.size + 5, 0, none⟩), .func (.func 27) #[] #[.pointer (some ⟨w.heap.size + 3, 0, none⟩), .pointer (some ⟨w.heap.size + 5, 0, none⟩), .pointer (some ⟨w.heap.size + 1, 0, none⟩), .pointer (some ⟨w.heap.size + 2, 0, none⟩), .pointer (some ⟨w.heap.size + 4, 0, none⟩)], .func (.func 28) #[] #[], .int .i64 i, u13, u14, u15, u16, u17, u18, u19, u20, u21, u22, u23, u24, u25, u26, u27, u28, u29, u30, u31, u32, u33, u34, u35, u36, u37, u38, u39, u40, u41, u42, u43, u44, u45, u46, u47, u48, u49, u50, u51, u52, u53, u54, u55, u56, u57, u58, u59, u60, u61, u62, u63, u64, u65, u66, u67, u68, u69, u70, u71, u72, u73, u74, u75, u76, u77, u78, u79, u80, u81, u82, u83, u84, u85, u86, u87, u88, u89, u90, u91, u92, u93, u94, u95, u96, u97, u98, u99, u100, u101, u102, u103, u104, u105, u106, u107, u108, u109, u110, u111, u112, u113, u114, u115, u116, u117, u118, u119, u120, u121, u122, u123, u124, u125, u126, u127, u128, u129, u130, u131, u132, u133, u134, u135, u136, u137], defers := [] } wr := by
  injection h with h
  injection h with e1 h
  injection h with e2 e3
  subst e1 e2 e3
  have c1b : decide (i ≤ (a0.size : Int)) = false := decide_eq_false c1
  clear c1
  conv => arg 2; whnf
  go_wp2
  first | exact DpEnd.mk' _ _ _ _ _ _ _ _ _ _ _ _ _ _ _ _ _ _ _ _ _ _ _ _ _ _ _ _ _ _ _ _ _ _ _ _ _ _ _ _ _ _ _ _ _ _ _ _ _ _ _ _ _ _ _ _ _ _ _ _ _ _ _ _ _ _ _ _ _ _ _ _ _ _ _ _ _ _ _ _ _ _ _ _ _ _ _ _ _ _ _ _ _ _ _ _ _ _ _ _ _ _ _ _ _ _ _ _ _ _ _ _ _ _ _ _ _ _ _ _ _ _ _ _ _ _ _ _ _ _ _ _ _ _ _ rfl rfl hM | exact hexit _ _ (DpEnd.mk' _ _ _ _ _ _ _ _ _ _ _ _ _ _ _ _ _ _ _ _ _ _ _ _ _ _ _ _ _ _ _ _ _ _ _ _ _ _ _ _ _ _ _ _ _ _ _ _ _ _ _ _ _ _ _ _ _ _ _ _ _ _ _ _ _ _ _ _ _ _ _ _ _ _ _ _ _ _ _ _ _ _ _ _ _ _ _ _ _ _ _ _ _ _ _ _ _ _ _ _ _ _ _ _ _ _ _ _ _ _ _ _ _ _ _ _ _ _ _ _ _ _ _ _ _ _ _ _ _ _ _ _ _ _ _ rfl rfl hM)
end Go.Proofs.Ytahdgaaedilcmaa.P
/- depfile.Parse: a round, out of its cases. -/
namespace Go.Proofs.Ytahdgaaedilcmaa.P
open Go.RowKit Go.Proofs.YtahdgaaedilcmaaW.PrintWords Go.Proofs.YtahdgaaedilcmaaW.PrintLast Go.Proofs.YtahdgaaedilcmaaW.PrintMore
set_option linter.unusedVariables false
set_option linter.unusedSimpArgs false
set_option maxHeartbeats 4000000 in
set_option maxRecDepth 1000000 in
theorem dp_round (a0 : ByteArray) (n : Nat) (r1 : List S32) (r2 r3 : Int) (w : World) (a : Act) (wr : World) (K : Act → World → Prop) (Q : Exit → Act → World → Prop) (hI : DpSt a0 w r1 r2 r3 n a wr)
    (hK : ∀ m, m < n → ∀ a' w', DpSt a0 w r1 r2 r3 m a' w' → K a' w') (hret : ∀ a' w', bodyPost Try.prog Try.f12 (DPost r1 r2 r3 w) .ret a' w' → Q .ret a' w')
    (hexit : ∀ a' w', DpEnd w r1 r2 r3 a' w' → Q (.exit 0) a' w') : Code.wp Try.prog dpBody (Exit.then K Q) a wr := by
  refine DpSt.elim (C := fun a => Code.wp _ _ _ a wr) hI ?_
  clear hI a
  intro out rule word inn tgt col i vO u1 u2 u13 u14 u15 u16 u17 u18 u19 u20 u21 u22 u23 u24 u25 u26 u27 u28 u29 u30 u31 u32 u33 u34 u35 u36 u37 u38 u39 u40 u41 u42 u43 u44 u45 u46 u47 u48 u49 u50 u51 u52 u53 u54 u55 u56 u57 u58 u59 u60 u61 u62 u63 u64 u65 u66 u67 u68 u69 u70 u71 u72 u73 u74 u75 u76 u77 u78 u79 u80 u81 u82 u83 u84 u85 u86 u87 u88 u89 u90 u91 u92 u93 u94 u95 u96 u97 u98 u99 u100 u101 u102 u103 u104 u105 u106 u107 u108 u109 u110 u111 u112 u113 u114 u115 u116 u117 u118 u119 u120 u121 u122 u123 u124 u125 u126 u127 u128 u129 u130 u131 u132 u133 u134 u135 u136 u137 h hM
  cases n with
  | zero => exact absurd h (by simp [depfile_Parse.l0])
  | succ m =>
    replace hK := hK m (Nat.lt_succ_self m)
    rw [depfile_Parse.l0] at h
    by_cases hb : 0 ≤ i ∧ i ≤ 32770 ∧ out.length < 100000 ∧ rule.f1.length < 100000 ∧ word.size < 100000
    case neg => rw [if_neg hb] at h; cases h
    rw [if_pos hb] at h
    obtain ⟨b1, b2, b3, b4, b5⟩ := hb
    by_cases c1 : i ≤ (a0.size : Int)
    case neg =>
      rw [if_neg c1] at h
      exact dp_Z a0 out rule word inn tgt col i vO u1 u2 u13 u14 u15 u16 u17 u18 u19 u20 u21 u22 u23 u24 u25 u26 u27 u28 u29 u30 u31 u32 u33 u34 u35 u36 u37 u38 u39 u40 u41 u42 u43 u44 u45 u46 u47 u48 u49 u50 u51 u52 u53 u54 u55 u56 u57 u58 u59 u60 u61 u62 u63 u64 u65 u66 u67 u68 u69 u70 u71 u72 u73 u74 u75 u76 u77 u78 u79 u80 u81 u82 u83 u84 u85 u86 u87 u88 u89 u90 u91 u92 u93 u94 u95 u96 u97 u98 u99 u100 u101 u102 u103 u104 u105 u106 u107 u108 u109 u110 u111 u112 u113 u114 u115 u116 u117 u118 u119 u120 u121 u122 u123 u124 u125 u126 u127 u128 u129 u130 u131 u132 u133 u134 u135 u136 u137 r1 r2 r3 w wr K Q hM hexit c1 h
    rw [if_pos c1] at h
    have hx := bt_at a0 i
    by_cases c2 : i = (a0.size : Int) ∨ bt a0 i = 10
    case pos =>
      rw [if_pos c2] at h
      by_cases cE : i = (a0.size : Int)
      case pos =>
        by_cases ct : closeTgt inn tgt col = true
        case pos =>
          rw [if_pos ct] at h
          cases col with
          | false => rw [if_pos rfl] at h; exact dp_AEw a0 out rule word inn tgt i vO u1 u2 u13 u14 u15 u16 u17 u18 u19 u20 u21 u22 u23 u24 u25 u26 u27 u28 u29 u30 u31 u32 u33 u34 u35 u36 u37 u38 u39 u40 u41 u42 u43 u44 u45 u46 u47 u48 u49 u50 u51 u52 u53 u54 u55 u56 u57 u58 u59 u60 u61 u62 u63 u64 u65 u66 u67 u68 u69 u70 u71 u72 u73 u74 u75 u76 u77 u78 u79 u80 u81 u82 u83 u84 u85 u86 u87 u88 u89 u90 u91 u92 u93 u94 u95 u96 u97 u98 u99 u100 u101 u102 u103 u104 u105 u106 u107 u108 u109 u110 u111 u112 u113 u114 u115 u116 u117 u118 u119 u120 u121 u122 u123 u124 u125 u126 u127 u128 u129 u130 u131 u132 u133 u134 u135 u136 u137 m r1 r2 r3 w wr K Q hM b1 b2 b3 b4 b5 hK hret c1 (beq_iff_eq.mpr cE) ct h
          | true => rw [if_neg (by decide)] at h; exact dp_AEp a0 out rule word inn tgt i vO u1 u2 u13 u14 u15 u16 u17 u18 u19 u20 u21 u22 u23 u24 u25 u26 u27 u28 u29 u30 u31 u32 u33 u34 u35 u36 u37 u38 u39 u40 u41 u42 u43 u44 u45 u46 u47 u48 u49 u50 u51 u52 u53 u54 u55 u56 u57 u58 u59 u60 u61 u62 u63 u64 u65 u66 u67 u68 u69 u70 u71 u72 u73 u74 u75 u76 u77 u78 u79 u80 u81 u82 u83 u84 u85 u86 u87 u88 u89 u90 u91 u92 u93 u94 u95 u96 u97 u98 u99 u100 u101 u102 u103 u104 u105 u106 u107 u108 u109 u110 u111 u112 u113 u114 u115 u116 u117 u118 u119 u120 u121 u122 u123 u124 u125 u126 u127 u128 u129 u130 u131 u132 u133 u134 u135 u136 u137 m r1 r2 r3 w wr K Q hM b1 b2 b3 b4 b5 hK hret c1 (beq_iff_eq.mpr cE) ct h
        rw [if_neg ct] at h
        exact dp_AEn a0 out rule word inn tgt col i vO u1 u2 u13 u14 u15 u16 u17 u18 u19 u20 u21 u22 u23 u24 u25 u26 u27 u28 u29 u30 u31 u32 u33 u34 u35 u36 u37 u38 u39 u40 u41 u42 u43 u44 u45 u46 u47 u48 u49 u50 u51 u52 u53 u54 u55 u56 u57 u58 u59 u60 u61 u62 u63 u64 u65 u66 u67 u68 u69 u70 u71 u72 u73 u74 u75 u76 u77 u78 u79 u80 u81 u82 u83 u84 u85 u86 u87 u88 u89 u90 u91 u92 u93 u94 u95 u96 u97 u98 u99 u100 u101 u102 u103 u104 u105 u106 u107 u108 u109 u110 u111 u112 u113 u114 u115 u116 u117 u118 u119 u120 u121 u122 u123 u124 u125 u126 u127 u128 u129 u130 u131 u132 u133 u134 u135 u136 u137 m r1 r2 r3 w wr K Q hM b1 b2 b3 b4 b5 hK hret c1 (beq_iff_eq.mpr cE) (Bool.eq_false_iff.mpr ct) h
      have cN := c2.resolve_left cE
      by_cases ct : closeTgt inn tgt col = true
      case pos =>
        rw [if_pos ct] at h
        cases col with
        | false => rw [if_pos rfl] at h; exact dp_ANw a0 out rule word inn tgt i vO u1 u2 u13 u14 u15 u16 u17 u18 u19 u20 u21 u22 u23 u24 u25 u26 u27 u28 u29 u30 u31 u32 u33 u34 u35 u36 u37 u38 u39 u40 u41 u42 u43 u44 u45 u46 u47 u48 u49 u50 u51 u52 u53 u54 u55 u56 u57 u58 u59 u60 u61 u62 u63 u64 u65 u66 u67 u68 u69 u70 u71 u72 u73 u74 u75 u76 u77 u78 u79 u80 u81 u82 u83 u84 u85 u86 u87 u88 u89 u90 u91 u92 u93 u94 u95 u96 u97 u98 u99 u100 u101 u102 u103 u104 u105 u106 u107 u108 u109 u110 u111 u112 u113 u114 u115 u116 u117 u118 u119 u120 u121 u122 u123 u124 u125 u126 u127 u128 u129 u130 u131 u132 u133 u134 u135 u136 u137 m r1 r2 r3 w wr K Q hM b1 b2 b3 b4 b5 hK hret c1 (by omega) (beq_eq_false_iff_ne.mpr cE) (beq_iff_eq.mpr cN) hx ct h
        | true => rw [if_neg (by decide)] at h; exact dp_ANp a0 out rule word inn tgt i vO u1 u2 u13 u14 u15 u16 u17 u18 u19 u20 u21 u22 u23 u24 u25 u26 u27 u28 u29 u30 u31 u32 u33 u34 u35 u36 u37 u38 u39 u40 u41 u42 u43 u44 u45 u46 u47 u48 u49 u50 u51 u52 u53 u54 u55 u56 u57 u58 u59 u60 u61 u62 u63 u64 u65 u66 u67 u68 u69 u70 u71 u72 u73 u74 u75 u76 u77 u78 u79 u80 u81 u82 u83 u84 u85 u86 u87 u88 u89 u90 u91 u92 u93 u94 u95 u96 u97 u98 u99 u100 u101 u102 u103 u104 u105 u106 u107 u108 u109 u110 u111 u112 u113 u114 u115 u116 u117 u118 u119 u120 u121 u122 u123 u124 u125 u126 u127 u128 u129 u130 u131 u132 u133 u134 u135 u136 u137 m r1 r2 r3 w wr K Q hM b1 b2 b3 b4 b5 hK hret c1 (by omega) (beq_eq_false_iff_ne.mpr cE) (beq_iff_eq.mpr cN) hx ct h
      rw [if_neg ct] at h
      exact dp_ANn a0 out rule word inn tgt col i vO u1 u2 u13 u14 u15 u16 u17 u18 u19 u20 u21 u22 u23 u24 u25 u26 u27 u28 u29 u30 u31 u32 u33 u34 u35 u36 u37 u38 u39 u40 u41 u42 u43 u44 u45 u46 u47 u48 u49 u50 u51 u52 u53 u54 u55 u56 u57 u58 u59 u60 u61 u62 u63 u64 u65 u66 u67 u68 u69 u70 u71 u72 u73 u74 u75 u76 u77 u78 u79 u80 u81 u82 u83 u84 u85 u86 u87 u88 u89 u90 u91 u92 u93 u94 u95 u96 u97 u98 u99 u100 u101 u102 u103 u104 u105 u106 u107 u108 u109 u110 u111 u112 u113 u114 u115 u116 u117 u118 u119 u120 u121 u122 u123 u124 u125 u126 u127 u128 u129 u130 u131 u132 u133 u134 u135 u136 u137 m r1 r2 r3 w wr K Q hM b1 b2 b3 b4 b5 hK hret c1 (by omega) (beq_eq_false_iff_ne.mpr cE) (beq_iff_eq.mpr cN) hx (Bool.eq_false_iff.mpr ct) h
    rw [if_neg c2] at h
    have g3 : i < (a0.size : Int) := by have := fun e => c2 (.inl e); omega
    have g2 : (i == (a0.size : Int)) = false := beq_eq_false_iff_ne.mpr (fun e => c2 (.inl e))
    have g1 : (bt a0 i == 10) = false := beq_eq_false_iff_ne.mpr (fun e => c2 (.inr e))
    by_cases c4 : bt a0 i < 32
    case pos => rw [if_pos c4] at h; exact dp_B a0 out rule word inn tgt col i vO u1 u2 u13 u14 u15 u16 u17 u18 u19 u20 u21 u22 u23 u24 u25 u26 u27 u28 u29 u30 u31 u32 u33 u34 u35 u36 u37 u38 u39 u40 u41 u42 u43 u44 u45 u46 u47 u48 u49 u50 u51 u52 u53 u54 u55 u56 u57 u58 u59 u60 u61 u62 u63 u64 u65 u66 u67 u68 u69 u70 u71 u72 u73 u74 u75 u76 u77 u78 u79 u80 u81 u82 u83 u84 u85 u86 u87 u88 u89 u90 u91 u92 u93 u94 u95 u96 u97 u98 u99 u100 u101 u102 u103 u104 u105 u106 u107 u108 u109 u110 u111 u112 u113 u114 u115 u116 u117 u118 u119 u120 u121 u122 u123 u124 u125 u126 u127 u128 u129 u130 u131 u132 u133 u134 u135 u136 u137 m r1 r2 r3 w wr K Q hM b1 b2 b3 b4 b5 hK hret c1 g3 g2 g1 hx (decide_eq_true c4) h
    rw [if_neg c4] at h
    have g4 : decide (bt a0 i < 32) = false := decide_eq_false c4
    by_cases c5 : bt a0 i = 32
    case pos => rw [if_pos c5] at h; exact dp_C a0 out rule word inn tgt col i vO u1 u2 u13 u14 u15 u16 u17 u18 u19 u20 u21 u22 u23 u24 u25 u26 u27 u28 u29 u30 u31 u32 u33 u34 u35 u36 u37 u38 u39 u40 u41 u42 u43 u44 u45 u46 u47 u48 u49 u50 u51 u52 u53 u54 u55 u56 u57 u58 u59 u60 u61 u62 u63 u64 u65 u66 u67 u68 u69 u70 u71 u72 u73 u74 u75 u76 u77 u78 u79 u80 u81 u82 u83 u84 u85 u86 u87 u88 u89 u90 u91 u92 u93 u94 u95 u96 u97 u98 u99 u100 u101 u102 u103 u104 u105 u106 u107 u108 u109 u110 u111 u112 u113 u114 u115 u116 u117 u118 u119 u120 u121 u122 u123 u124 u125 u126 u127 u128 u129 u130 u131 u132 u133 u134 u135 u136 u137 m r1 r2 r3 w wr K Q hM b1 b2 b3 b4 b5 hK hret c1 g3 g2 g1 hx g4 (beq_iff_eq.mpr c5) h
    rw [if_neg c5] at h
    have g5 : (bt a0 i == 32) = false := beq_eq_false_iff_ne.mpr c5
    by_cases c6 : bt a0 i = 58
    case pos =>
      rw [if_pos c6] at h
      by_cases ct : closeTgt inn tgt col = true
      case neg =>
        rw [if_pos (.inl (Bool.eq_false_iff.mpr ct))] at h
        exact dp_Dn a0 out rule word inn tgt col i vO u1 u2 u13 u14 u15 u16 u17 u18 u19 u20 u21 u22 u23 u24 u25 u26 u27 u28 u29 u30 u31 u32 u33 u34 u35 u36 u37 u38 u39 u40 u41 u42 u43 u44 u45 u46 u47 u48 u49 u50 u51 u52 u53 u54 u55 u56 u57 u58 u59 u60 u61 u62 u63 u64 u65 u66 u67 u68 u69 u70 u71 u72 u73 u74 u75 u76 u77 u78 u79 u80 u81 u82 u83 u84 u85 u86 u87 u88 u89 u90 u91 u92 u93 u94 u95 u96 u97 u98 u99 u100 u101 u102 u103 u104 u105 u106 u107 u108 u109 u110 u111 u112 u113 u114 u115 u116 u117 u118 u119 u120 u121 u122 u123 u124 u125 u126 u127 u128 u129 u130 u131 u132 u133 u134 u135 u136 u137 m r1 r2 r3 w wr K Q hM b1 b2 b3 b4 b5 hK hret c1 g3 g2 g1 hx g4 g5 (beq_iff_eq.mpr c6) (Bool.eq_false_iff.mpr ct) h
      cases col with
      | true => rw [if_pos (.inr rfl)] at h; exact dp_Dc a0 out rule word inn tgt i vO u1 u2 u13 u14 u15 u16 u17 u18 u19 u20 u21 u22 u23 u24 u25 u26 u27 u28 u29 u30 u31 u32 u33 u34 u35 u36 u37 u38 u39 u40 u41 u42 u43 u44 u45 u46 u47 u48 u49 u50 u51 u52 u53 u54 u55 u56 u57 u58 u59 u60 u61 u62 u63 u64 u65 u66 u67 u68 u69 u70 u71 u72 u73 u74 u75 u76 u77 u78 u79 u80 u81 u82 u83 u84 u85 u86 u87 u88 u89 u90 u91 u92 u93 u94 u95 u96 u97 u98 u99 u100 u101 u102 u103 u104 u105 u106 u107 u108 u109 u110 u111 u112 u113 u114 u115 u116 u117 u118 u119 u120 u121 u122 u123 u124 u125 u126 u127 u128 u129 u130 u131 u132 u133 u134 u135 u136 u137 m r1 r2 r3 w wr K Q hM b1 b2 b3 b4 b5 hK hret c1 g3 g2 g1 hx g4 g5 (beq_iff_eq.mpr c6) ct h
      | false => rw [if_neg (fun e => by rcases e with e | e; rw [ct] at e; cases e; cases e), ct] at h; exact dp_D a0 out rule word inn tgt i vO u1 u2 u13 u14 u15 u16 u17 u18 u19 u20 u21 u22 u23 u24 u25 u26 u27 u28 u29 u30 u31 u32 u33 u34 u35 u36 u37 u38 u39 u40 u41 u42 u43 u44 u45 u46 u47 u48 u49 u50 u51 u52 u53 u54 u55 u56 u57 u58 u59 u60 u61 u62 u63 u64 u65 u66 u67 u68 u69 u70 u71 u72 u73 u74 u75 u76 u77 u78 u79 u80 u81 u82 u83 u84 u85 u86 u87 u88 u89 u90 u91 u92 u93 u94 u95 u96 u97 u98 u99 u100 u101 u102 u103 u104 u105 u106 u107 u108 u109 u110 u111 u112 u113 u114 u115 u116 u117 u118 u119 u120 u121 u122 u123 u124 u125 u126 u127 u128 u129 u130 u131 u132 u133 u134 u135 u136 u137 m r1 r2 r3 w wr K Q hM b1 b2 b3 b4 b5 hK hret c1 g3 g2 g1 hx g4 g5 (beq_iff_eq.mpr c6) ct h
    rw [if_neg c6] at h
    have g6 : (bt a0 i == 58) = false := beq_eq_false_iff_ne.mpr c6
    by_cases c7 : bt a0 i = 92
    case pos =>
      rw [if_pos c7] at h
      have g7 : (bt a0 i == 92) = true := beq_iff_eq.mpr c7
      have hy := bt_at a0 (i + 1)
      by_cases cE : i + 1 = (a0.size : Int)
      case pos => rw [if_pos (.inl cE)] at h; exact dp_Ee a0 out rule word inn tgt col i vO u1 u2 u13 u14 u15 u16 u17 u18 u19 u20 u21 u22 u23 u24 u25 u26 u27 u28 u29 u30 u31 u32 u33 u34 u35 u36 u37 u38 u39 u40 u41 u42 u43 u44 u45 u46 u47 u48 u49 u50 u51 u52 u53 u54 u55 u56 u57 u58 u59 u60 u61 u62 u63 u64 u65 u66 u67 u68 u69 u70 u71 u72 u73 u74 u75 u76 u77 u78 u79 u80 u81 u82 u83 u84 u85 u86 u87 u88 u89 u90 u91 u92 u93 u94 u95 u96 u97 u98 u99 u100 u101 u102 u103 u104 u105 u106 u107 u108 u109 u110 u111 u112 u113 u114 u115 u116 u117 u118 u119 u120 u121 u122 u123 u124 u125 u126 u127 u128 u129 u130 u131 u132 u133 u134 u135 u136 u137 m r1 r2 r3 w wr K Q hM b1 b2 b3 b4 b5 hK hret c1 g3 g2 g1 hx g4 g5 g6 g7 (beq_iff_eq.mpr cE) h
      have g8 : (i + 1 == (a0.size : Int)) = false := beq_eq_false_iff_ne.mpr cE
      have g9 : i + 1 < (a0.size : Int) := by omega
      by_cases cI : escI (bt a0 (i + 1)) = false
      case pos => rw [if_pos (.inr cI)] at h; exact dp_Ei a0 out rule word inn tgt col i vO u1 u2 u13 u14 u15 u16 u17 u18 u19 u20 u21 u22 u23 u24 u25 u26 u27 u28 u29 u30 u31 u32 u33 u34 u35 u36 u37 u38 u39 u40 u41 u42 u43 u44 u45 u46 u47 u48 u49 u50 u51 u52 u53 u54 u55 u56 u57 u58 u59 u60 u61 u62 u63 u64 u65 u66 u67 u68 u69 u70 u71 u72 u73 u74 u75 u76 u77 u78 u79 u80 u81 u82 u83 u84 u85 u86 u87 u88 u89 u90 u91 u92 u93 u94 u95 u96 u97 u98 u99 u100 u101 u102 u103 u104 u105 u106 u107 u108 u109 u110 u111 u112 u113 u114 u115 u116 u117 u118 u119 u120 u121 u122 u123 u124 u125 u126 u127 u128 u129 u130 u131 u132 u133 u134 u135 u136 u137 m r1 r2 r3 w wr K Q hM b1 b2 b3 b4 b5 hK hret c1 g3 g2 g1 hx g4 g5 g6 g7 g9 g8 hy cI h
      rw [if_neg (fun e => e.elim cE cI)] at h
      have g10 : escI (bt a0 (i + 1)) = true := by rcases Bool.eq_false_or_eq_true (escI (bt a0 (i + 1))) with e | e; exact e; exact absurd e cI
      by_cases c12 : bt a0 (i + 1) = 10
      case pos => rw [if_pos c12] at h; exact dp_En a0 out rule word inn tgt col i vO u1 u2 u13 u14 u15 u16 u17 u18 u19 u20 u21 u22 u23 u24 u25 u26 u27 u28 u29 u30 u31 u32 u33 u34 u35 u36 u37 u38 u39 u40 u41 u42 u43 u44 u45 u46 u47 u48 u49 u50 u51 u52 u53 u54 u55 u56 u57 u58 u59 u60 u61 u62 u63 u64 u65 u66 u67 u68 u69 u70 u71 u72 u73 u74 u75 u76 u77 u78 u79 u80 u81 u82 u83 u84 u85 u86 u87 u88 u89 u90 u91 u92 u93 u94 u95 u96 u97 u98 u99 u100 u101 u102 u103 u104 u105 u106 u107 u108 u109 u110 u111 u112 u113 u114 u115 u116 u117 u118 u119 u120 u121 u122 u123 u124 u125 u126 u127 u128 u129 u130 u131 u132 u133 u134 u135 u136 u137 m r1 r2 r3 w wr K Q hM b1 b2 b3 b4 b5 hK hret c1 g3 g2 g1 hx g4 g5 g6 g7 g9 g8 hy g10 (beq_iff_eq.mpr c12) h
      rw [if_neg c12] at h
      have g12 : (bt a0 (i + 1) == 10) = false := beq_eq_false_iff_ne.mpr c12
      cases inn with
      | true => rw [if_neg (fun e => by cases e.1)] at h; exact dp_Gi a0 out rule word true tgt col i vO u1 u2 u13 u14 u15 u16 u17 u18 u19 u20 u21 u22 u23 u24 u25 u26 u27 u28 u29 u30 u31 u32 u33 u34 u35 u36 u37 u38 u39 u40 u41 u42 u43 u44 u45 u46 u47 u48 u49 u50 u51 u52 u53 u54 u55 u56 u57 u58 u59 u60 u61 u62 u63 u64 u65 u66 u67 u68 u69 u70 u71 u72 u73 u74 u75 u76 u77 u78 u79 u80 u81 u82 u83 u84 u85 u86 u87 u88 u89 u90 u91 u92 u93 u94 u95 u96 u97 u98 u99 u100 u101 u102 u103 u104 u105 u106 u107 u108 u109 u110 u111 u112 u113 u114 u115 u116 u117 u118 u119 u120 u121 u122 u123 u124 u125 u126 u127 u128 u129 u130 u131 u132 u133 u134 u135 u136 u137 m r1 r2 r3 w wr K Q hM b1 b2 b3 b4 b5 hK hret c1 g3 g2 g1 hx g4 g5 g6 g7 g9 g8 hy g10 g12 rfl h
      | false => cases tgt with
        | false => rw [if_neg (fun e => by cases e.2.1)] at h; exact dp_Gt a0 out rule word false false col i vO u1 u2 u13 u14 u15 u16 u17 u18 u19 u20 u21 u22 u23 u24 u25 u26 u27 u28 u29 u30 u31 u32 u33 u34 u35 u36 u37 u38 u39 u40 u41 u42 u43 u44 u45 u46 u47 u48 u49 u50 u51 u52 u53 u54 u55 u56 u57 u58 u59 u60 u61 u62 u63 u64 u65 u66 u67 u68 u69 u70 u71 u72 u73 u74 u75 u76 u77 u78 u79 u80 u81 u82 u83 u84 u85 u86 u87 u88 u89 u90 u91 u92 u93 u94 u95 u96 u97 u98 u99 u100 u101 u102 u103 u104 u105 u106 u107 u108 u109 u110 u111 u112 u113 u114 u115 u116 u117 u118 u119 u120 u121 u122 u123 u124 u125 u126 u127 u128 u129 u130 u131 u132 u133 u134 u135 u136 u137 m r1 r2 r3 w wr K Q hM b1 b2 b3 b4 b5 hK hret c1 g3 g2 g1 hx g4 g5 g6 g7 g9 g8 hy g10 g12 rfl rfl h
        | true => cases col with
          | false => rw [if_pos ⟨rfl, rfl, rfl⟩] at h; exact dp_Gw a0 out rule word false true i vO u1 u2 u13 u14 u15 u16 u17 u18 u19 u20 u21 u22 u23 u24 u25 u26 u27 u28 u29 u30 u31 u32 u33 u34 u35 u36 u37 u38 u39 u40 u41 u42 u43 u44 u45 u46 u47 u48 u49 u50 u51 u52 u53 u54 u55 u56 u57 u58 u59 u60 u61 u62 u63 u64 u65 u66 u67 u68 u69 u70 u71 u72 u73 u74 u75 u76 u77 u78 u79 u80 u81 u82 u83 u84 u85 u86 u87 u88 u89 u90 u91 u92 u93 u94 u95 u96 u97 u98 u99 u100 u101 u102 u103 u104 u105 u106 u107 u108 u109 u110 u111 u112 u113 u114 u115 u116 u117 u118 u119 u120 u121 u122 u123 u124 u125 u126 u127 u128 u129 u130 u131 u132 u133 u134 u135 u136 u137 m r1 r2 r3 w wr K Q hM b1 b2 b3 b4 b5 hK hret c1 g3 g2 g1 hx g4 g5 g6 g7 g9 g8 hy g10 g12 rfl rfl h
          | true => rw [if_neg (fun e => by cases e.2.2)] at h; exact dp_Gc a0 out rule word false true i vO u1 u2 u13 u14 u15 u16 u17 u18 u19 u20 u21 u22 u23 u24 u25 u26 u27 u28 u29 u30 u31 u32 u33 u34 u35 u36 u37 u38 u39 u40 u41 u42 u43 u44 u45 u46 u47 u48 u49 u50 u51 u52 u53 u54 u55 u56 u57 u58 u59 u60 u61 u62 u63 u64 u65 u66 u67 u68 u69 u70 u71 u72 u73 u74 u75 u76 u77 u78 u79 u80 u81 u82 u83 u84 u85 u86 u87 u88 u89 u90 u91 u92 u93 u94 u95 u96 u97 u98 u99 u100 u101 u102 u103 u104 u105 u106 u107 u108 u109 u110 u111 u112 u113 u114 u115 u116 u117 u118 u119 u120 u121 u122 u123 u124 u125 u126 u127 u128 u129 u130 u131 u132 u133 u134 u135 u136 u137 m r1 r2 r3 w wr K Q hM b1 b2 b3 b4 b5 hK hret c1 g3 g2 g1 hx g4 g5 g6 g7 g9 g8 hy g10 g12 rfl rfl h
    rw [if_neg c7] at h
    have g7 : (bt a0 i == 92) = false := beq_eq_false_iff_ne.mpr c7
    cases inn with
    | true => rw [if_neg (fun e => by cases e.1)] at h; exact dp_Fi a0 out rule word true tgt col i vO u1 u2 u13 u14 u15 u16 u17 u18 u19 u20 u21 u22 u23 u24 u25 u26 u27 u28 u29 u30 u31 u32 u33 u34 u35 u36 u37 u38 u39 u40 u41 u42 u43 u44 u45 u46 u47 u48 u49 u50 u51 u52 u53 u54 u55 u56 u57 u58 u59 u60 u61 u62 u63 u64 u65 u66 u67 u68 u69 u70 u71 u72 u73 u74 u75 u76 u77 u78 u79 u80 u81 u82 u83 u84 u85 u86 u87 u88 u89 u90 u91 u92 u93 u94 u95 u96 u97 u98 u99 u100 u101 u102 u103 u104 u105 u106 u107 u108 u109 u110 u111 u112 u113 u114 u115 u116 u117 u118 u119 u120 u121 u122 u123 u124 u125 u126 u127 u128 u129 u130 u131 u132 u133 u134 u135 u136 u137 m r1 r2 r3 w wr K Q hM b1 b2 b3 b4 b5 hK hret c1 g3 g2 g1 hx g4 g5 g6 g7 rfl h
    | false => cases tgt with
      | false => rw [if_neg (fun e => by cases e.2.1)] at h; exact dp_Ft a0 out rule word false false col i vO u1 u2 u13 u14 u15 u16 u17 u18 u19 u20 u21 u22 u23 u24 u25 u26 u27 u28 u29 u30 u31 u32 u33 u34 u35 u36 u37 u38 u39 u40 u41 u42 u43 u44 u45 u46 u47 u48 u49 u50 u51 u52 u53 u54 u55 u56 u57 u58 u59 u60 u61 u62 u63 u64 u65 u66 u67 u68 u69 u70 u71 u72 u73 u74 u75 u76 u77 u78 u79 u80 u81 u82 u83 u84 u85 u86 u87 u88 u89 u90 u91 u92 u93 u94 u95 u96 u97 u98 u99 u100 u101 u102 u103 u104 u105 u106 u107 u108 u109 u110 u111 u112 u113 u114 u115 u116 u117 u118 u119 u120 u121 u122 u123 u124 u125 u126 u127 u128 u129 u130 u131 u132 u133 u134 u135 u136 u137 m r1 r2 r3 w wr K Q hM b1 b2 b3 b4 b5 hK hret c1 g3 g2 g1 hx g4 g5 g6 g7 rfl rfl h
      | true => cases col with
        | false => rw [if_pos ⟨rfl, rfl, rfl⟩] at h; exact dp_Fw a0 out rule word false true i vO u1 u2 u13 u14 u15 u16 u17 u18 u19 u20 u21 u22 u23 u24 u25 u26 u27 u28 u29 u30 u31 u32 u33 u34 u35 u36 u37 u38 u39 u40 u41 u42 u43 u44 u45 u46 u47 u48 u49 u50 u51 u52 u53 u54 u55 u56 u57 u58 u59 u60 u61 u62 u63 u64 u65 u66 u67 u68 u69 u70 u71 u72 u73 u74 u75 u76 u77 u78 u79 u80 u81 u82 u83 u84 u85 u86 u87 u88 u89 u90 u91 u92 u93 u94 u95 u96 u97 u98 u99 u100 u101 u102 u103 u104 u105 u106 u107 u108 u109 u110 u111 u112 u113 u114 u115 u116 u117 u118 u119 u120 u121 u122 u123 u124 u125 u126 u127 u128 u129 u130 u131 u132 u133 u134 u135 u136 u137 m r1 r2 r3 w wr K Q hM b1 b2 b3 b4 b5 hK hret c1 g3 g2 g1 hx g4 g5 g6 g7 rfl rfl h
        | true => rw [if_neg (fun e => by cases e.2.2)] at h; exact dp_Fc a0 out rule word false true i vO u1 u2 u13 u14 u15 u16 u17 u18 u19 u20 u21 u22 u23 u24 u25 u26 u27 u28 u29 u30 u31 u32 u33 u34 u35 u36 u37 u38 u39 u40 u41 u42 u43 u44 u45 u46 u47 u48 u49 u50 u51 u52 u53 u54 u55 u56 u57 u58 u59 u60 u61 u62 u63 u64 u65 u66 u67 u68 u69 u70 u71 u72 u73 u74 u75 u76 u77 u78 u79 u80 u81 u82 u83 u84 u85 u86 u87 u88 u89 u90 u91 u92 u93 u94 u95 u96 u97 u98 u99 u100 u101 u102 u103 u104 u105 u106 u107 u108 u109 u110 u111 u112 u113 u114 u115 u116 u117 u118 u119 u120 u121 u122 u123 u124 u125 u126 u127 u128 u129 u130 u131 u132 u133 u134 u135 u136 u137 m r1 r2 r3 w wr K Q hM b1 b2 b3 b4 b5 hK hret c1 g3 g2 g1 hx g4 g5 g6 g7 rfl rfl h
end Go.Proofs.Ytahdgaaedilcmaa.P
/- depfile.Parse: the machine's walk, joined. -/
namespace Go.Proofs.Ytahdgaaedilcmaa.P
open Go.RowKit Go.Proofs.YtahdgaaedilcmaaW.PrintWords Go.Proofs.YtahdgaaedilcmaaW.PrintLast Go.Proofs.YtahdgaaedilcmaaW.PrintMore
set_option linter.unusedVariables false
set_option linter.unusedSimpArgs false
set_option maxHeartbeats 8000000 in
set_option maxRecDepth 1000000 in
theorem depfile_Parse.calls (k : Nat) (a0 : ByteArray) (r1 : List S32) (r2 r3 : Int) (w : World) (h : depfile_Parse.f k a0 = some (r1, r2, r3)) :
    Calls Try.prog 12 #[.string a0] w fun e w' => ∃ v0_ : Value, e = .returned (.tuple #[v0_, .agg #[.int .i64 r2, .int .i64 r3]]) ∧ Kd.S k32 32 w' w.heap.size (fun _ => True) v0_ r1 ∧ Below w.heap.size w w' := by
  have H' := Aside0.mk h
  unfold depfile_Parse.f at h
  by_cases hl : (32768 : Int) < (a0.size : Int)
  · clear h
    have hlb : decide ((32768 : Int) < (a0.size : Int)) = true := decide_eq_true hl
    go_enter Try.func12, Try.ntmps12
    have he := H'.out
    unfold depfile_Parse.f at he
    rw [if_pos hl] at he
    injection he with he
    injection he with e1 he
    injection he with e2 e3
    subst e1 e2 e3
    clear H'
    go_wp2
    refine bodyPost_ret (results_tc rfl _ _ w.heap.size 26 _ (0, 0) _ rfl (blk_new w _) Try.underlying26 rfl info26s) rfl ⟨_, rfl, Kd.S_nil _ _ _ _ _, ?_⟩
    exact (Below.refl _ w).alloc (Nat.le_refl _) _
  · rw [if_neg hl] at h
    clear H'
    have H' := Aside0.mk h
    clear h
    have hlb : decide ((32768 : Int) < (a0.size : Int)) = false := decide_eq_false hl
    go_enter Try.func12, Try.ntmps12
    go_wp2
    simp only [Nat.add_assoc, Nat.reduceAdd]
    obtain ⟨W0, hW0⟩ : ∃ W0, W0 = ((((((w.alloc (.cells #[.int .i64 0, .int .i64 0] 26)).alloc (.cells #[.string ⟨#[]⟩, .slice none 0 0] 32)).alloc (.cells #[.string ⟨#[]⟩] 9)).alloc (.cells #[.bool false] 4)).alloc (.cells #[.bool false] 4)).alloc (.cells #[.bool false] 4)) := ⟨_, rfl⟩
    have hM0 := PMem.start w
    rw [← hW0] at hM0 ⊢
    clear hW0
    refine wp_loop_ghost (fun n => DpSt a0 w r1 r2 r3 n) (c := dpBody) k (DpSt.mk' _ _ _ _ _ _ _ _ _ _ _ _ _ _ _ _ _ _ _ _ _ _ _ _ _ _ _ _ _ _ _ _ _ _ _ _ _ _ _ _ _ _ _ _ _ _ _ _ _ _ _ _ _ _ _ _ _ _ _ _ _ _ _ _ _ _ _ _ _ _ _ _ _ _ _ _ _ _ _ _ _ _ _ _ _ _ _ _ _ _ _ _ _ _ _ _ _ _ _ _ _ _ _ _ _ _ _ _ _ _ _ _ _ _ _ _ _ _ _ _ _ _ _ _ _ _ _ _ _ _ _ _ _ _ _ H'.out hM0) (fun n a wr hI => dp_round a0 n r1 r2 r3 w a wr _ _ hI (fun m hm a' w' h => ⟨m, hm, h⟩) (fun a' w' h => ?_) (fun a' w' h => ?_))
    · exact h
    · refine DpEnd.elim (C := fun a => (Exit.inBlock _ _ : Exit → Act → World → Prop) (Exit.exit _) a w') h ?_
      clear h
      intro rule word inn tgt col i a0' vO u1 u2 u13 u14 u15 u16 u17 u18 u19 u20 u21 u22 u23 u24 u25 u26 u27 u28 u29 u30 u31 u32 u33 u34 u35 u36 u37 u38 u39 u40 u41 u42 u43 u44 u45 u46 u47 u48 u49 u50 u51 u52 u53 u54 u55 u56 u57 u58 u59 u60 u61 u62 u63 u64 u65 u66 u67 u68 u69 u70 u71 u72 u73 u74 u75 u76 u77 u78 u79 u80 u81 u82 u83 u84 u85 u86 u87 u88 u89 u90 u91 u92 u93 u94 u95 u96 u97 u98 u99 u100 u101 u102 u103 u104 u105 u106 u107 u108 u109 u110 u111 u112 u113 u114 u115 u116 u117 u118 u119 u120 u121 u122 u123 u124 u125 u126 u127 u128 u129 u130 u131 u132 u133 u134 u135 u136 u137 h2 h3 hM
      subst h2 h3
      obtain ⟨k3, k4, k5, k2, k0, k0b, f0, f0b, f2, f3, f4, f5, f1, f1b, k1, A1, n1, C1, k1b⟩ := hM.cells
      go_wp2
      exact bodyPost_ret (results_tc rfl _ _ w.heap.size 26 _ (0, 0) _ rfl (PMem.tell hM _ _).1 Try.underlying26 rfl info26s) rfl ⟨_, rfl, (PMem.tell hM _ _).2.2, (PMem.tell hM _ _).2.1⟩
end Go.Proofs.Ytahdgaaedilcmaa.P
