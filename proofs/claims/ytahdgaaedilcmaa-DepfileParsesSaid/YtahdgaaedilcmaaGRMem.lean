/- brickyardref16.Parse: what memory holds between its steps. -/
import Derived.Test.YtahdgaaedilcmaaGW
import Derived.Test.YtahdgaaedilcmaaPx0
import Derived.Test.YtahdgaaedilcmaaProg
import Derived.Test.YtahdgaaedilcmaaPxf30
import Derived.Deep.AppendLies
namespace Go.Proofs.Ytahdgaaedilcmaa.P
open Go.RowKit Go.Proofs.YtahdgaaedilcmaaW.PrintWords Go.Proofs.YtahdgaaedilcmaaW.PrintLast Go.Proofs.YtahdgaaedilcmaaW.PrintMore
set_option linter.unusedVariables false
set_option linter.unusedSimpArgs false

mutual
/-- the pieces, one a round -/
def ref16_Parse.l0 : Nat → List S61 → Int → List S32 → List ByteArray → Bool → Int → Option (List S32 × Int × Int)
  | 0, _, _, _, _, _, _ => none
  | k + 1, l, bad, out, words, mark, i =>
    if 0 ≤ i ∧ i ≤ 100000 ∧ out.length < 100000 ∧ words.length < 100000 then
      if i < (l.length : Int) then
        if (rd_T61 l i).f0 = 2 then
          if words.length = 0 ∨ mark = true then some ([], 6, (rd_T61 l i).f2) else ref16_Parse.l0 k l bad out words true (i + 1)
        else if (rd_T61 l i).f0 = 3 then
          if words.length = 0 then ref16_Parse.l0 k l bad out [] false (i + 1)
          else if mark = false then some ([], 6, (rd_T61 l i).f2)
          else ref16_Parse.l0 k l bad (out ++ [⟨rdOf ByteArray.empty words 0, words.drop 1⟩]) [] false (i + 1)
        else if (rd_T61 l i).f0 = 4 then
          if words.length = 1 ∧ mark = false then some ([], 6, (rd_T61 l i).f2) else ref16_Parse.l1 k l bad out words mark i [(rd_T61 l i).f1]
        else ref16_Parse.l0 k l bad out words mark (i + 1)
      else if 0 ≤ bad then some ([], 6, bad) else some (out, 0, 0)
    else none
/-- a word's bytes -/
def ref16_Parse.l1 : Nat → List S61 → Int → List S32 → List ByteArray → Bool → Int → List Int → Option (List S32 × Int × Int)
  | 0, _, _, _, _, _, _, _ => none
  | k + 1, l, bad, out, words, mark, i, s =>
    if 0 ≤ i ∧ i ≤ 100000 ∧ s.length < 100000 ∧ words.length < 100000 then
      if i + 1 < (l.length : Int) ∧ (rd_T61 l (i + 1)).f0 = 4 then ref16_Parse.l1 k l bad out words mark (i + 1) (s ++ [(rd_T61 l (i + 1)).f1])
      else ref16_Parse.l0 k l bad out (words ++ [strOfNums s]) mark (i + 1)
    else none
end
def ref16_Parse.f (k : Nat) (a0 : ByteArray) : Option (List S32 × Int × Int) :=
  if (32768 : Int) < (a0.size : Int) then some ([], 3, 32768) else (brickyardref16_Pieces.f k a0).bind fun p => ref16_Parse.l0 k p.1 p.2 [] [] false 0
theorem ref16_Parse.mono_l : ∀ k, (∀ l bad out words mark i, LeO (ref16_Parse.l0 k l bad out words mark i) (ref16_Parse.l0 (k + 1) l bad out words mark i)) ∧ (∀ l bad out words mark i s, LeO (ref16_Parse.l1 k l bad out words mark i s) (ref16_Parse.l1 (k + 1) l bad out words mark i s))
  | 0 => ⟨fun _ _ _ _ _ _ r h => by simp [ref16_Parse.l0] at h, fun _ _ _ _ _ _ _ r h => by simp [ref16_Parse.l1] at h⟩
  | k + 1 => by
    obtain ⟨ih0, ih1⟩ := ref16_Parse.mono_l k
    refine ⟨?_, ?_⟩
    · intro l bad out words mark i
      rw [ref16_Parse.l0, ref16_Parse.l0.eq_def (k + 1 + 1)]
      repeat' (first | exact LeO.refl _ | exact ih0 _ _ _ _ _ _ | exact ih1 _ _ _ _ _ _ _ | apply LeO.ite)
    · intro l bad out words mark i s
      rw [ref16_Parse.l1, ref16_Parse.l1.eq_def (k + 1 + 1)]
      repeat' (first | exact LeO.refl _ | exact ih0 _ _ _ _ _ _ | exact ih1 _ _ _ _ _ _ _ | apply LeO.ite)
theorem ref16_Parse.mono (k : Nat) (a0 : ByteArray) : LeO (ref16_Parse.f k a0) (ref16_Parse.f (k + 1) a0) :=
  LeO.ite (LeO.refl _) (LeO.bind (brickyardref16_Pieces.mono a0 k) (fun p => (ref16_Parse.mono_l k).1 _ _ _ _ _ _))

/-- At B lies the second result; the pieces, the rules and the words lie apart. -/
def QMem (w0 : World) (B : Nat) (vL : Value) (l : List S61) (vO : Value) (out : List S32) (vW : Value) (words : List ByteArray) (w : World) : Prop :=
  Below B w0 w ∧ B + 1 ≤ w.heap.size ∧ w.heap[B]? = some (.cells #[.int .i64 0, .int .i64 0] 26 (0, 0)) ∧
  ∃ okL okO okW, Kd.R k61 61 w (B + 1) okL vL l ∧ Kd.S k32 32 w (B + 1) okO vO out ∧ Kd.R Kd.string 9 w (B + 1) okW vW words ∧
    (∀ k, okL k → B + 1 ≤ k ∧ k < w.heap.size) ∧ (∀ k, okO k → B + 1 ≤ k ∧ k < w.heap.size ∧ ¬ okL k ∧ ¬ okW k) ∧ (∀ k, okW k → B + 1 ≤ k ∧ k < w.heap.size ∧ ¬ okL k)
section
variable {w0 : World} {B : Nat} {vL vO vW : Value} {l : List S61} {out : List S32} {words : List ByteArray} {w : World}
theorem QMem.below_ (h : QMem w0 B vL l vO out vW words w) {w1 : World} (hb1 : Below w.heap.size w w1) : QMem w0 B vL l vO out vW words w1 := by
  obtain ⟨hb, hs, h0, okL, okO, okW, hL, hO, hW, xL, xO, xW⟩ := h
  have := hb1.size
  exact ⟨below_then hb (by omega) hb1, by omega, blk_below h0 hb1, okL, okO, okW, Kd.R_below hL hb1, Kd.S_below hO hb1, Kd.R_below hW hb1, fun k hk => ⟨(xL k hk).1, by have := xL k hk; omega⟩,
    fun k hk => ⟨(xO k hk).1, by have := xO k hk; omega, (xO k hk).2.2⟩, fun k hk => ⟨(xW k hk).1, by have := xW k hk; omega, (xW k hk).2.2⟩⟩
theorem QMem.tell (h : QMem w0 B vL l vO out vW words w) (e at_ : Int) :
    ((w.setCell ⟨B, 0, none⟩ (.int .i64 e)).setCell ⟨B, 1, none⟩ (.int .i64 at_)).heap[B]? = some (.cells #[.int .i64 e, .int .i64 at_] 26 (0, 0)) ∧
    Below B w0 ((w.setCell ⟨B, 0, none⟩ (.int .i64 e)).setCell ⟨B, 1, none⟩ (.int .i64 at_)) ∧
    Kd.S k32 32 ((w.setCell ⟨B, 0, none⟩ (.int .i64 e)).setCell ⟨B, 1, none⟩ (.int .i64 at_)) B (fun _ => True) vO out := by
  obtain ⟨hb, hs, h0, okL, okO, okW, hL, hO, hW, xL, xO, xW⟩ := h
  refine ⟨blk_set (blk_set h0 0 _) 1 _, (hb.setCell (p := ⟨B, 0, none⟩) (by simp) _).setCell (p := ⟨B, 1, none⟩) (by simp) _, ?_⟩
  exact Kd.S_lower (Kd.S_mono (Kd.S_far (Kd.S_far hO (p := ⟨B, 0, none⟩) (fun k hk => by have := xO k hk; simp; omega) _) (p := ⟨B, 1, none⟩) (fun k hk => by have := xO k hk; simp; omega) _) (fun _ _ => trivial)) (by omega)
/-- what the walk reads -/
theorem QMem.cells (h : QMem w0 B vL l vO out vW words w) : w.cell? ⟨B, 0, none⟩ = some (.int .i64 0) ∧ w.cell? ⟨B, 1, none⟩ = some (.int .i64 0) ∧ w.frozen? ⟨B, 0, none⟩ = false ∧ w.frozen? ⟨B, 1, none⟩ = false ∧
    (∃ A c, vL = .slice A l.length c ∧ l.length ≤ c ∧ Kd.C k61 w A l.length l) ∧ (∃ A c, vO = .slice A out.length c) ∧ (∃ A c, vW = .slice A words.length c ∧ words.length ≤ c ∧ Kd.C Kd.string w A words.length words) := by
  obtain ⟨hb, hs, h0, okL, okO, okW, hL, hO, hW, xL, xO, xW⟩ := h
  exact ⟨blk_cell h0 0, blk_cell h0 1, blk_frozen h0 0, blk_frozen h0 1, Kd.R_reads hL, Kd.R_slice (Kd.S_R hO), Kd.R_reads hW⟩
theorem QMem.ne (h : QMem w0 B vL l vO out vW words w) {A : Addr} {n c : Nat} (e : vL = .slice (some A) n c) (j : Nat) : (A.add j).block ≠ B ∧ B ≠ (A.add j).block := by
  obtain ⟨hb, hs, h0, okL, okO, okW, hL, hO, hW, xL, xO, xW⟩ := h
  subst e
  obtain ⟨g, rfl⟩ := Kd.R_head hL
  have := xL g (hL.1 g (by simp [Value.ownBlock]))
  rw [add_plain]
  constructor
  · show g ≠ B; omega
  · show B ≠ g; omega
theorem QMem.headW (h : QMem w0 B vL l vO out vW words w) {A : Addr} {n c : Nat} (e : vW = .slice (some A) n c) : A.add 0 = A := by
  obtain ⟨hb, hs, h0, okL, okO, okW, hL, hO, hW, xL, xO, xW⟩ := h
  subst e
  obtain ⟨g, rfl⟩ := Kd.R_head hW
  exact add_plain g 0
/-- no words -/
theorem QMem.none_ (h : QMem w0 B vL l vO out vW words w) : QMem w0 B vL l vO out (.slice none 0 0) [] w := by
  obtain ⟨hb, hs, h0, okL, okO, okW, hL, hO, hW, xL, xO, xW⟩ := h
  exact ⟨hb, hs, h0, okL, okO, fun _ => False, hL, hO, Kd.R_nil _ _ _ _ _, xL, fun k hk => ⟨(xO k hk).1, (xO k hk).2.1, (xO k hk).2.2.1, fun h => h⟩, fun _ h => h.elim⟩
end
theorem QMem.start {w w1 : World} {vL : Value} {l : List S61} (hR : Kd.R k61 61 w1 (w.alloc (.cells #[.int .i64 0, .int .i64 0] 26)).heap.size (fun _ => True) vL l)
    (hb2 : Below (w.alloc (.cells #[.int .i64 0, .int .i64 0] 26)).heap.size (w.alloc (.cells #[.int .i64 0, .int .i64 0] 26)) w1) : QMem w w.heap.size vL l (.slice none 0 0) [] (.slice none 0 0) [] w1 := by
  have hb := hb2.mono (show w.heap.size ≤ (w.alloc (.cells #[.int .i64 0, .int .i64 0] 26)).heap.size by simp)
  have hsz := hb2.size
  have e : (w.alloc (.cells #[.int .i64 0, .int .i64 0] 26)).heap.size = w.heap.size + 1 := by simp
  rw [e] at hsz hR
  refine ⟨((Below.refl _ w).alloc (Nat.le_refl _) _).trans hb, hsz, blk_below (blk_new w _) hb2, fun k => w.heap.size + 1 ≤ k ∧ k < w1.heap.size, fun _ => False, fun _ => False, Kd.R_mono (Kd.R_bound hR) (fun k hk => ⟨hk.2.1, hk.2.2.1⟩), Kd.S_nil _ _ _ _ _, Kd.R_nil _ _ _ _ _,
    fun k hk => hk, fun _ h => h.elim, fun _ h => h.elim⟩
/-- append(words, p) -/
theorem word_event {w0 w : World} {B : Nat} {vL vO vW : Value} {l : List S61} {out : List S32} {words : List ByteArray} {p : ByteArray} {ops : Array Oper} {rest : List Oper} {o : Oper} {a : Act} {Q : Exit → Act → World → Prop}
    (hgd : o.guard = none) (ho : o.op = .call { callee := .builtin .append, args := #[.tmp 119, .tmp 122], argTypes := #[30, 30] }) (hs : a.eval (.tmp 119) = vW) (hx : a.eval (.tmp 122) = .slice (some ⟨w.heap.size, 0, none⟩) 1 1)
    (hM : QMem w0 B vL l vO out vW words w) (hl : (words.length + 1) * 16 ≤ 140737488355328)
    (h : ∀ (A6 : Option Addr) (c6 : Nat) (w1 : World), QMem w0 B vL l vO out (.slice A6 (words.length + 1) c6) (words ++ [p]) w1 → wpList Try.prog ops Q rest (a.put o.dst (.slice A6 (words.length + 1) c6)) w1) :
    wpList Try.prog ops Q (o :: rest) a (w.alloc (.cells #[.string p] 9)) := by
  obtain ⟨hb, hs0, h0, okL, okO, okW, hL, hO, hW, xL, xO, xW⟩ := hM
  have hW1 := hW.1
  refine Kd.R_append Kd.string (w0 := w) (W := w) (B + 1) hgd (.tmp 119) (.tmp 122) 30 9 (.string ⟨#[]⟩) 16 ho Try.underlying30 info9 rfl (by decide) (by omega) vW words p [.string p] (fun k => okW k ∨ w.heap.size ≤ k) (fun _ => False) hs hx
    rfl (fun _ hk => hk.elim) (fun k hk => .inr hk) (Kd.R_mono hW (fun k hk => .inl hk)) (Below.refl _ _) hs0 hl ?_
  intro v1 w1 h1 hbl hg hat
  obtain ⟨A6, c6, rfl⟩ := Kd.R_slice h1
  rw [List.length_append, List.length_singleton] at h1 ⊢
  have hsz := hg.size
  refine h A6 c6 w1 ⟨pw_below_grown hb _ (by omega) hg (fun k hk => by have := xW k (hW1 k hk); omega), by omega, blk_grown h0 hg (fun he => by have := xW B (hW1 B he.symm); omega), okL, okO, fun k => (okW k ∨ w.heap.size ≤ k) ∧ B + 1 ≤ k ∧ k < w1.heap.size,
    Kd.R_grown hL hg (fun k hk he => (xW k (hW1 k he.symm)).2.2 hk), Kd.S_grown hO hg (fun k hk he => (xO k hk).2.2.2 (hW1 k he.symm)), Kd.R_mono (Kd.R_bound h1) (fun k hk => ⟨hk.1, hk.2.1, hk.2.2.1⟩),
    fun k hk => ⟨(xL k hk).1, by have := xL k hk; omega⟩, fun k hk => ⟨(xO k hk).1, by have := xO k hk; omega, (xO k hk).2.2.1, fun hw => ?_⟩, fun k hk => ⟨hk.2.1, hk.2.2, fun hl => ?_⟩⟩
  · rcases hw.1 with h' | h'
    · exact (xO k hk).2.2.2 h'
    · have := xO k hk; omega
  · rcases hk.1 with h' | h'
    · exact (xW k h').2.2 hl
    · have := xL k hl; omega
/-- append(s, c), the word's bytes -/
theorem byte_event {wr w : World} {vS : Value} {s : List Int} {c : Int} {ops : Array Oper} {rest : List Oper} {o : Oper} {a : Act} {Q : Exit → Act → World → Prop}
    (hgd : o.guard = none) (ho : o.op = .call { callee := .builtin .append, args := #[.tmp 111, .tmp 117], argTypes := #[35, 35] }) (hs : a.eval (.tmp 111) = vS) (hx : a.eval (.tmp 117) = .slice (some ⟨w.heap.size, 0, none⟩) 1 1)
    (hb : Below wr.heap.size wr w) (hS : Kd.R (Kd.int .u8) 5 w wr.heap.size (fun _ => True) vS s) (hl : s.length + 1 ≤ 140737488355328)
    (h : ∀ (A6 : Option Addr) (c6 : Nat) (w1 : World), Kd.R (Kd.int .u8) 5 w1 wr.heap.size (fun _ => True) (.slice A6 (s.length + 1) c6) (s ++ [c]) → Below wr.heap.size wr w1 → wpList Try.prog ops Q rest (a.put o.dst (.slice A6 (s.length + 1) c6)) w1) :
    wpList Try.prog ops Q (o :: rest) a (w.alloc (.cells #[.int .u8 c] 5)) := by
  refine Kd.R_append (Kd.int .u8) (w0 := wr) (W := w) wr.heap.size hgd (.tmp 111) (.tmp 117) 35 5 (.int .u8 0) 1 ho Try.underlying35 info5 rfl (by decide) (by omega) vS s c [.int .u8 c] (fun _ => True) (fun _ => False) hs hx
    rfl (fun _ hk => hk.elim) (fun _ _ => trivial) hS hb hb.size (by omega) ?_
  intro v1 w1 h1 hbl hg hat
  obtain ⟨A6, c6, rfl⟩ := Kd.R_slice h1
  rw [List.length_append, List.length_singleton] at h1 ⊢
  exact h A6 c6 w1 h1 hbl
/-- append([]string{}, words[1:]...): a new row -/
theorem rows_event {w : World} {B m c : Nat} {A' : Option Addr} {ys : List ByteArray} {ops : Array Oper} {o : Oper} {a : Act} {Q : Exit → Act → World → Prop} {Kc : Act → World → Prop} {E : Prop}
    (hgd : o.guard = none) (ho : o.op = .call { callee := .builtin .append, args := #[.tmp 67, .tmp 69], argTypes := #[30, 30] }) (hs : a.eval (.tmp 67) = .slice (some ⟨w.heap.size, 0, none⟩) 0 0) (hx : a.eval (.tmp 69) = .slice A' m c)
    (hB : B ≤ w.heap.size) (hR : Kd.string.C w A' m ys) (hl : ys.length * 16 ≤ 140737488355328)
    (h : ∀ (A6 : Option Addr) (c6 : Nat) (w1 : World), Kd.R Kd.string 9 w1 B (fun k => w.heap.size ≤ k) (.slice A6 ys.length c6) ys → Below w.heap.size w w1 → Kc (a.put o.dst (.slice A6 ys.length c6)) w1) :
    if Region.wanted o (yielded ops a.tmps) = true then Oper.wp Try.prog o a (w.alloc (.cells #[] 9)).drew Kc Q else E := by
  have hw : Region.wanted o (yielded ops a.tmps) = true := by simp [Region.wanted, hgd]
  rw [if_pos hw]
  have hn : ys.length = m := hR.1
  have h0 : Kd.R Kd.string 9 (w.alloc (.cells #[] 9)) B (fun k => w.heap.size ≤ k) (.slice (some ⟨w.heap.size, 0, none⟩) 0 0) [] := by
    have h1 := World.ownsRow_lit (base := B) (e := 9) (size := 1) w #[] 0 hB (by simp [maxLen]) (by simp)
    exact ⟨fun k hk => by simp [Value.ownBlock] at hk; omega, [], (by simpa using h1 : (w.alloc (.cells #[] 9)).ownsRow B 9 1 (.slice (some ⟨w.heap.size, 0, none⟩) 0 0) 0 []), Reps.none _ _⟩
  have hb0 : Below w.heap.size w (w.alloc (.cells #[] 9)).drew := below_drew ((Below.refl _ _).alloc (Nat.le_refl _) _)
  have key := Kd.R_append_rows_step (P := Try.prog) (ops := ops) (o := o) (a := a) (Q := Q) (Kc := Kc) Kd.string (Rr := Kd.string.K (w.alloc (.cells #[] 9)).drew) (w0 := (w.alloc (.cells #[] 9)).drew) (W := (w.alloc (.cells #[] 9)).drew) B hw (.tmp 67) (.tmp 69) 30 9 (.string ⟨#[]⟩) 16 ho Try.underlying30 info9 rfl (by decide) (by omega)
    (.slice (some ⟨w.heap.size, 0, none⟩) 0 0) [] ys A' m c (fun k => w.heap.size ≤ k) (fun _ => False) hs hx (Kd.R_drew h0) (Kd.C_below hR hb0) (fun x cs hc => hc) (fun _ hk => hk.elim) (fun k hk => by simp at hk; omega) (Below.refl _ _) (by simp; omega) (by simp; omega)
    (fun v1 w1 h1 hbl hg hat => ?_)
  · rw [if_pos hw] at key; exact key
  · obtain ⟨A6, c6, rfl⟩ := Kd.R_slice h1
    rw [List.nil_append] at h1 ⊢
    exact h A6 c6 w1 h1 (pw_below_grown hb0 _ (by simp) hg (fun k hk => by simp [Value.ownBlock] at hk; omega))
/-- append(out, rule), the rule's texts a new row -/
theorem rpush_event {w0 w w2 : World} {B : Nat} {vL vO vW : Value} {l : List S61} {out : List S32} {words ys : List ByteArray} {x : ByteArray} {A6 : Option Addr} {c6 n6 : Nat} {ops : Array Oper} {o : Oper} {a : Act} {Q : Exit → Act → World → Prop} {Kc : Act → World → Prop} {E : Prop}
    (hgd : o.guard = none) (ho : o.op = .call { callee := .builtin .append, args := #[.tmp 63, .tmp 72], argTypes := #[23, 23] }) (hs : a.eval (.tmp 63) = vO) (hx : a.eval (.tmp 72) = .slice (some ⟨w2.heap.size, 0, none⟩) 1 1)
    (hn6 : ys.length = n6) (hM : QMem w0 B vL l vO out vW words w) (hb2 : Below w.heap.size w w2) (hR : Kd.R Kd.string 9 w2 (B + 1) (fun k => w.heap.size ≤ k) (.slice A6 ys.length c6) ys) (hl : (out.length + 1) * 40 ≤ 140737488355328) {A0 : Addr} {n0 c0 : Nat} {v0 : Value} (hA0 : vW = .slice (some A0) n0 c0) (hv0 : w2.cell? A0 = some v0)
    (h : ∀ (A7 : Option Addr) (c7 : Nat) (w1 : World), QMem w0 B vL l (.slice A7 (out.length + 1) c7) (out ++ [⟨x, ys⟩]) (.slice none 0 0) [] w1 → w1.cell? A0 = some v0 → Kc (a.put o.dst (.slice A7 (out.length + 1) c7)) w1) :
    if Region.wanted o (yielded ops a.tmps) = true then Oper.wp Try.prog o a (w2.alloc (.cells #[.string x, .slice A6 n6 c6] 32)) Kc Q else E := by
  subst hn6
  have hw : Region.wanted o (yielded ops a.tmps) = true := by simp [Region.wanted, hgd]
  rw [if_pos hw]
  obtain ⟨hb, hs0, h0, okL, okO, okW, hL, hO, hW, xL, xO, xW⟩ := hM
  have hsz2 := hb2.size
  have hO2 := Kd.S_below hO hb2
  have hO1 := (Kd.S_R hO).1
  have key := Kd.S_append_step (P := Try.prog) (ops := ops) (o := o) (a := a) (Q := Q) (Kc := Kc) k32 (w0 := w2) (W := w2) (B + 1) hw (.tmp 63) (.tmp 72) 23 32 (.agg #[(.string ⟨#[]⟩), (.slice none 0 0)]) 40 ho Try.underlying23 info32 rfl (by decide) (by omega) vO out ⟨x, ys⟩ [.string x, .slice A6 ys.length c6]
    (fun k => okO k ∨ w.heap.size ≤ k) (fun k => w.heap.size ≤ k) hs hx (k32_mkM _ _ _ ⟨x, ys⟩ hR) (fun k hk => ⟨.inr hk, fun he => by have := xO k (hO1 k he.symm); omega⟩) (fun k hk => .inr (by omega)) (Kd.S_mono hO2 (fun k hk => ⟨.inl hk, fun h' => by have := xO k hk; omega⟩)) (Below.refl _ _) (by omega) hl
    (fun v1 w1 h1 hbl hg hat => ?_)
  · rw [if_pos hw] at key; exact key
  · obtain ⟨A7, c7, rfl⟩ := Kd.R_slice (Kd.S_R h1)
    rw [List.length_append, List.length_singleton] at h1 ⊢
    have hsz := hg.size
    have hL2 := Kd.R_below hL hb2
    refine h A7 c7 w1 ⟨pw_below_grown (below_then hb (by omega) hb2) _ (by omega) hg (fun k hk => by have := xO k (hO1 k hk); omega), by omega, blk_grown (blk_below h0 hb2) hg (fun he => by have := xO B (hO1 B he.symm); omega), okL, fun k => (okO k ∨ w.heap.size ≤ k) ∧ B + 1 ≤ k ∧ k < w1.heap.size, fun _ => False,
      Kd.R_grown hL2 hg (fun k hk he => (xO k (hO1 k he.symm)).2.2.1 hk), Kd.S_mono (Kd.S_bound h1) (fun k hk => ⟨hk.1, hk.2.1, hk.2.2.1⟩), Kd.R_nil _ _ _ _ _, fun k hk => ⟨(xL k hk).1, by have := xL k hk; omega⟩, fun k hk => ⟨hk.2.1, hk.2.2, fun hl => ?_, fun h => h⟩, fun _ h => h.elim⟩ ((hg.cell_far A0 (World.block_lt_of_cell? _ _ hv0) (fun he => by
      subst hA0
      exact (xO _ (hO1 _ he.symm)).2.2.2 (hW.1 _ (by simp [Value.ownBlock])))).trans hv0)
    rcases hk.1 with h' | h'
    · exact (xO k h').2.2.1 hl
    · have := xL k hl; omega
end Go.Proofs.Ytahdgaaedilcmaa.P
