/- brickyardref19.Of: the graph of edges and names. -/
import Derived.Test.YtmhbdgnajlnhnaaPlOf
import Derived.Test.YtmhbdgnajlnhnaaGWay
import Derived.Test.YtmhbdgnajlnhnaaPlRefO
import Derived.Test.YtmhbdgnajlnhnaaPxf27
import Derived.Deep.QuietTactic
import Derived.BigQuiet
import Derived.Deep.RegionLaw
namespace Go.Proofs.Ytmhbdgnajlnhnaa.P
open Go.RowKit Go.Maps Go.MapKept Go.ChangeMaps Go.Proofs.YtmhbdgnajlnhnaaW.PrintWords Go.Proofs.YtmhbdgnajlnhnaaW.PrintLast Go.Proofs.YtmhbdgnajlnhnaaW.PrintMore Go.Proofs.Ytmhbdgnajlnhnaa.Pl
set_option linter.unusedVariables false
set_option linter.unusedSimpArgs false
theorem below_less {b b' : Nat} {a c : World} (h : Below b a c) (hb : b' ≤ b) : Below b' a c := ⟨h.os, h.tape, h.output, h.size, fun k hk => h.block k (by omega)⟩
/-- append(v, ys...) in a region that draws: any row -/
theorem rows_ev {α : Type} (d : Kd α) {W : World} {B m c : Nat} {A' : Option Addr} {xs ys : List α} {v : Value} {okv : Nat → Prop} {s y : Operand} {t e : TypeId} {z : Value} {bytes : Nat} {ops : Array Oper} {o : Oper} {a : Act} {Q : Exit → Act → World → Prop} {Kc : Act → World → Prop} {E : Prop}
    (hgd : o.guard = none) (ho : o.op = .call { callee := .builtin .append, args := #[s, y], argTypes := #[t, t] }) (hs : a.eval s = v) (hx : a.eval y = .slice A' m c)
    (ht : Try.prog.underlying t = some (.slice e)) (hinfo : (Try.prog.info? e).map (fun i => (i.zero, i.size, i.bytes)) = some (some z, d.sz, bytes)) (hz : z.cells.size = d.sz) (hs0 : 0 < d.sz) (hb0 : 0 < bytes)
    (hKM : ∀ x cs, d.K W x cs → d.M W B (fun _ => False) x cs)
    (HO : d.R e W B okv v xs) (hR : d.C W A' m ys) (hB : B ≤ W.heap.size) (hl : (xs.length + ys.length) * bytes ≤ 140737488355328)
    (h : ∀ v1 w1, d.R e w1 B (fun k => okv k ∨ W.heap.size ≤ k) v1 (xs ++ ys) → W.grownBy w1 v.ownBlock → Below B W w1 → Kc (a.put o.dst v1) w1) :
    if Region.wanted o (yielded ops a.tmps) = true then Oper.wp Try.prog o a W Kc Q else E := by
  have hw : Region.wanted o (yielded ops a.tmps) = true := by simp [Region.wanted, hgd]
  rw [if_pos hw]
  have hn : ys.length = m := hR.1
  have key := Kd.R_append_rows_step (P := Try.prog) (ops := ops) (o := o) (a := a) (Q := Q) (Kc := Kc) d (Rr := d.K W) (w0 := W) (W := W) B hw s y t e z bytes ho ht hinfo hz hs0 hb0
    v xs ys A' m c (fun k => okv k ∨ W.heap.size ≤ k) (fun _ => False) hs hx (Kd.R_mono HO (fun k hk => .inl hk)) hR hKM (fun _ hk => hk.elim) (fun k hk => .inr hk) (Below.refl _ _) hB (by rw [← hn]; exact hl)
    (fun v1 w1 h1 hbl hg hat => h v1 w1 h1 hg hbl)
  rw [if_pos hw] at key
  exact key
theorem lit45_C {W : World} {g : Nat} {x : S45} (hg : W.heap[g]? = some (.cells #[.string x.f0, .string x.f1] 45 (0, 0))) : Kd.C k45 W (some ⟨g, 0, none⟩) 1 [x] := by
  refine ⟨rfl, by omega, fun _ => ⟨_, rfl, fun j p hp => ?_⟩⟩
  have hj : j = 0 := by
    rcases Nat.eq_zero_or_pos j with h | h
    · exact h
    · rw [List.getElem?_eq_none (by simp; omega)] at hp; cases hp
  subst hj
  have hp : x = p := Option.some.inj hp
  subst hp
  refine ⟨[.string x.f0, .string x.f1], rfl, k45_mk W x, fun i u hu => ?_⟩
  show W.cell? (Addr.add ⟨g, 0, none⟩ (0 * 2 + i)) = some u
  rw [show (Addr.add ⟨g, 0, none⟩ (0 * 2 + i) : Addr) = ⟨g, i, none⟩ by simp [Addr.add]; exact fun h => h.symm, blk_cell' hg, ← hu]
  exact List.getElem?_toArray
theorem pair_C' {W : World} {g : Nat} {a b : ByteArray} (hg : W.heap[g]? = some (.cells #[.string a, .string b] 9 (0, 0))) : Kd.C Kd.string W (some ⟨g, 0, none⟩) 2 [a, b] := by
  have h2 : Kd.R Kd.string 9 W 0 (fun _ => True) (.slice (some ⟨g, 0, none⟩) 2 2) [a, b] :=
    Kd.R_of_own (xs := [a, b]) ⟨rfl, .inr ⟨g, 2, #[.string a, .string b], rfl, Nat.zero_le _, hg, Nat.le_refl _, by simp [maxLen], by simp, rfl⟩⟩ (fun _ _ => trivial)
  exact (Kd.R_reads' h2).2.2
theorem run_eql45 (w : World) (x y : S45) : (binOp .eql 45 (.agg #[.string x.f0, .string x.f1]) (.agg #[.string y.f0, .string y.f1])).run Try.prog w = .ok (.bool (decide (eqE x y))) w := by
  have h : (x.f0.toList == y.f0.toList && (x.f1.toList == y.f1.toList)) = decide (eqE x y) := by
    rw [Bool.eq_iff_iff, Bool.and_eq_true, beq_iff_eq, beq_iff_eq, decide_eq_true_eq, toList_eq, toList_eq]
    rfl
  rw [← h]
  simp only [binOp]
  simp [Op.equal, Op.maxDepth, eqA45 9998 w]
/-- es[k:] and es[:k], rows of edges -/
theorem cut45 (A : Option Addr) (c : Nat) (L : List S45) (k : Nat) (hk : k ≤ L.length) (hc : L.length ≤ c) :
    (∃ A' : Option Addr, (∀ W : World, (Instr.slice 22 (.slice A L.length c) (some (.int .i64 (k : Int))) none none).run Try.prog W = .ok (.slice A' (L.length - k) (c - k)) W) ∧ ∀ W : World, Kd.C k45 W A L.length L → Kd.C k45 W A' (L.length - k) (L.drop k)) ∧
    (∀ W : World, (Instr.slice 22 (.slice A L.length c) none (some (.int .i64 (k : Int))) none).run Try.prog W = .ok (.slice A k c) W) := by
  obtain ⟨i0, hi0, hzz⟩ := Option.map_eq_some_iff.1 info45
  simp only [Prod.mk.injEq] at hzz
  have hel : Try.prog.elem 22 = 45 := by simp [Program.elem, Try.underlying22]
  have hu : Try.prog.underlying 22 = some (.slice (Try.prog.elem 22)) := by rw [hel]; exact Try.underlying22
  refine ⟨⟨if c = k then A else A.map (·.add (k * 2)), fun W => ?_, fun W h => ?_⟩, fun W => ?_⟩
  · rw [run_slice_l W 22 A L.length c hu .i64 (k : Int) (Int.natCast_nonneg _) (by omega), hel]
    simp [sizeOf, typeInfo, hi0, hzz.2.1, sliced, Result.andThen]
  · have := Kd.C_drop h hk hc
    rw [List.length_drop] at this
    exact this
  · have ha : (A.map fun x => x.add 0) = A := by cases A <;> simp [Addr.add]
    rw [run_slice_h W 22 A L.length c hu .i64 (k : Int) (Int.natCast_nonneg _) (by omega), hel]
    simp [sizeOf, typeInfo, hi0, hzz.2.1, sliced, Result.andThen, ha]
/-- what Of holds: the names as they are gathered, the edges in their order -/
structure OfM (w : World) (b : Nat) (okA okE : Nat → Prop) (vA vE : Value) (all : List ByteArray) (L : List S45) (wr : World) : Prop where
  below : Below w.heap.size w wr
  base : w.heap.size < b
  blk : wr.heap[b]? = some (.cells #[.slice none 0 0, vE] 29 (0, 0))
  out : wr.heap[w.heap.size]? = some (.cells #[.slice none 0 0, .slice none 0 0] 29 (0, 0))
  apA : ∀ k, okA k → k ≠ b ∧ w.heap.size < k ∧ ¬ okE k ∧ k < wr.heap.size
  apE : ∀ k, okE k → k ≠ b ∧ w.heap.size < k ∧ k < wr.heap.size
  rowA : Kd.R Kd.string 9 wr (w.heap.size + 1) okA vA all
  rowE : Kd.R k45 45 wr (w.heap.size + 1) okE vE L
section
variable {w wr w' : World} {b : Nat} {okA okE : Nat → Prop} {vA vE : Value} {all : List ByteArray} {L : List S45}
theorem OfM.bel (m : OfM w b okA okE vA vE all L wr) (hb : Below wr.heap.size wr w') : OfM w b okA okE vA vE all L w' :=
  ⟨m.below.trans (hb.mono m.below.size), m.base, blk_below m.blk hb, blk_below m.out hb, fun k hk => ⟨(m.apA k hk).1, (m.apA k hk).2.1, (m.apA k hk).2.2.1, by have := (m.apA k hk).2.2.2; have := hb.size; omega⟩, fun k hk => ⟨(m.apE k hk).1, (m.apE k hk).2.1, by have := (m.apE k hk).2.2; have := hb.size; omega⟩, Kd.R_below m.rowA hb, Kd.R_below m.rowE hb⟩
/-- the names' row is grown -/
theorem OfM.grownA {W w1 : World} {vA' : Value} {all' : List ByteArray} (m : OfM w b okA okE vA vE all L wr) (hW : Below wr.heap.size wr W)
    (h : Kd.R Kd.string 9 w1 (w.heap.size + 1) (fun k => okA k ∨ W.heap.size ≤ k) vA' all') (hg : W.grownBy w1 vA.ownBlock) : OfM w b (fun k => (okA k ∨ W.heap.size ≤ k) ∧ k < w1.heap.size) okE vA' vE all' L w1 := by
  have mW := m.bel hW
  have hs := hg.size
  have hbl := blk_lt mW.blk
  have hin : ∀ k, vA.ownBlock = some k → okA k := fun k e => mW.rowA.1 k e
  have hbs := mW.base
  refine ⟨mW.below.trans (pw_below_grown (Below.refl _ W) _ mW.below.size hg (fun k hk => by have := (mW.apA k (hin k hk)).2.1; omega)), m.base, blk_grown mW.blk hg (fun e => (mW.apA b (hin b e.symm)).1 rfl), blk_grown mW.out hg (fun e => by have := (mW.apA _ (hin _ e.symm)).2.1; omega), fun k hk => ?_, fun k hk => ⟨(mW.apE k hk).1, (mW.apE k hk).2.1, by have := (mW.apE k hk).2.2; omega⟩, Kd.R_mono (Kd.R_bound h) (fun k hk => ⟨hk.1, hk.2.2.1⟩), Kd.R_grown mW.rowE hg (fun k hk e => (mW.apA k (hin k e.symm)).2.2.1 hk)⟩
  rcases hk.1 with h' | h'
  · exact ⟨(mW.apA k h').1, (mW.apA k h').2.1, (mW.apA k h').2.2.1, hk.2⟩
  · exact ⟨fun e => by omega, by omega, fun e => by have := (mW.apE k e).2.2; omega, hk.2⟩
/-- an edge is put in its place -/
theorem OfM.insert {w11 WA wA WB wB : World} {rowA rowB : Option Nat} {okB : Nat → Prop} {vB : Value} {L' : List S45} (m : OfM w b okA okE vA vE all L w11) (hWA : Below w11.heap.size w11 WA) (hgA : WA.grownBy wA rowA) (hrA : ∀ q, rowA = some q → okE q)
    (hWB : Below wA.heap.size wA WB) (hgB : WB.grownBy wB rowB) (hrB : ∀ q, rowB = some q → okE q ∨ WA.heap.size ≤ q) (hB : Kd.R k45 45 wB (w.heap.size + 1) okB vB L') (hokB : ∀ q, okB q → okE q ∨ WA.heap.size ≤ q) :
    OfM w b okA (fun q => okB q ∧ q < wB.heap.size) vA vB all L' (wB.setCell ⟨b, 1, none⟩ vB) := by
  have mA := m.bel hWA
  have s1 := hgA.size
  have s2 := hWB.size
  have s3 := hgB.size
  have hbl := blk_lt mA.blk
  have hbs := m.base
  have hkeep : ∀ k, k < WA.heap.size → ¬ okE k → wB.heap[k]? = WA.heap[k]? := fun k hk hn => by
    rw [hgB.block k (by omega) (fun e => by rcases hrB k e.symm with h | h; exact hn h; omega), hWB.block k (by omega), hgA.block k hk (fun e => hn (hrA k e.symm))]
  have hbB : wB.heap[b]? = some (.cells #[.slice none 0 0, vE] 29 (0, 0)) := (hkeep b hbl (fun h => (mA.apE b h).1 rfl)).trans mA.blk
  have hgg : wB.heap[w.heap.size]? = some (.cells #[.slice none 0 0, .slice none 0 0] 29 (0, 0)) := (hkeep _ (blk_lt mA.out) (fun h => by have := (mA.apE _ h).2.1; omega)).trans mA.out
  have hset : (wB.setCell ⟨b, 1, none⟩ vB).heap.size = wB.heap.size := by simp [World.setCell]
  have hBel : Below w.heap.size w wB := mA.below.trans ((pw_below_grown (Below.refl _ WA) _ mA.below.size hgA (fun k hk => by have := (mA.apE k (hrA k hk)).2.1; omega)).trans ((below_less hWB (by have := mA.below.size; omega)).trans (pw_below_grown (Below.refl _ WB) _ (by have := mA.below.size; omega) hgB (fun k hk => by rcases hrB k hk with h | h; have := (mA.apE k h).2.1; omega; have := mA.below.size; omega))))
  refine ⟨hBel.setCell (p := ⟨b, 1, none⟩) (Nat.le_of_lt hbs) _, hbs, blk_set hbB 1 vB, blk_far hgg (p := ⟨b, 1, none⟩) (by show w.heap.size ≠ b; omega) _, fun k hk => ?_, fun k hk => ?_, ?_, ?_⟩
  · have h := mA.apA k hk
    exact ⟨h.1, h.2.1, fun hq => by rcases hokB k hq.1 with h' | h'; exact h.2.2.1 h'; have := h.2.2.2; omega, by rw [hset]; have := h.2.2.2; omega⟩
  · rw [hset]
    rcases hokB k hk.1 with h' | h'
    · exact ⟨(mA.apE k h').1, (mA.apE k h').2.1, hk.2⟩
    · exact ⟨fun e => by omega, by have := mA.below.size; omega, hk.2⟩
  · exact Kd.R_far (Kd.R_step mA.rowA (fun k ho hlt => hkeep k hlt (mA.apA k ho).2.2.1)) (fun k hk => (mA.apA k hk).1) _
  · exact Kd.R_far (Kd.R_mono (Kd.R_bound hB) (fun k hk => ⟨hk.1, hk.2.2.1⟩)) (fun k hk => by
      show k ≠ b
      rcases hokB k hk.1 with h' | h'
      · exact (mA.apE k h').1
      · omega) _
end
theorem rest_lit (w9 : World) : Kd.R k45 45 (w9.alloc (.cells #[] 45)) w9.heap.size (fun q => w9.heap.size ≤ q) (.slice (some ⟨w9.heap.size, 0, none⟩) 0 0) [] := by
  have h1 := World.ownsRow_lit (base := w9.heap.size) (e := 45) (size := 2) w9 #[] 0 (Nat.le_refl _) (by simp [maxLen]) (by simp)
  exact ⟨fun k hk => by simp [Value.ownBlock] at hk; omega, [], (by simpa using h1 : (w9.alloc (.cells #[] 45)).ownsRow w9.heap.size 45 2 (.slice (some ⟨w9.heap.size, 0, none⟩) 0 0) 0 []), Reps.none _ _⟩
theorem k45_KM (B : Nat) : ∀ (W : World) (x : S45) (cs : List Value), k45.K W x cs → k45.M W B (fun _ => False) x cs := fun W x cs hc => by rw [k45_open hc]; exact k45_mkM W B _ x
section
variable {w : World}
set_option maxRecDepth 1000000 in
set_option maxHeartbeats 4000000 in
theorem of_calls (A0 : Option Addr) (c0 : Nat) (E : List S45) (A1 : Option Addr) (c1 : Nat) (names : List ByteArray) (h0 : Kd.C k45 w A0 E.length E) (hc0 : E.length ≤ c0) (h1 : Kd.C Kd.string w A1 names.length names) (hc1 : names.length ≤ c1) (s0 : E.length ≤ 1000000) (s1 : names.length ≤ 1000000) :
    Calls Try.prog 13 #[.slice A0 E.length c0, .slice A1 names.length c1] w fun e w' => ∃ (v0 v1 : Value), e = .returned (.agg #[v0, v1]) ∧ Kd.R Kd.string 9 w' w.heap.size (fun _ => True) v0 (srt (allE names E)) ∧ Kd.R k45 45 w' w.heap.size (fun _ => True) v1 (ofE E) ∧ Below w.heap.size w w' := by
  have hu29 := Try.underlying29
  have hu45 := Try.underlying45
  have HC := Aside0.mk (And.intro h0 h1)
  clear h0 h1
  go_enter Try.func13, Try.ntmps13
  obtain ⟨W1, hW1⟩ : ∃ W1, (w.alloc (Obj.cells #[.slice none 0 0, .slice none 0 0] 29)).alloc (Obj.cells #[] 9) = W1 := ⟨_, rfl⟩
  have s1W : W1.heap.size = w.heap.size + 2 := by rw [← hW1]; simp [alloc_size]
  have hbW : Below w.heap.size w W1 := by rw [← hW1]; exact ((Below.refl _ w).alloc (Nat.le_refl _) _).alloc (by rw [alloc_size]; omega) _
  have gW : W1.heap[w.heap.size + 1]? = some (.cells #[] 9 (0, 0)) := by
    rw [← hW1]
    have := alloc_new (w := w.alloc (Obj.cells #[.slice none 0 0, .slice none 0 0] 29)) (o := Obj.cells #[] 9)
    rwa [alloc_size] at this
  have hR1 : Kd.R Kd.string 9 W1 (w.heap.size + 1) (fun k => w.heap.size + 1 ≤ k) (.slice (some ⟨w.heap.size + 1, 0, none⟩) 0 0) [] :=
    Kd.R_of_own (xs := []) ⟨rfl, .inr ⟨w.heap.size + 1, 0, #[], rfl, Nat.le_refl _, gW, Nat.le_refl _, by simp [maxLen], by simp, rfl⟩⟩ (fun k hk => by simp [Value.ownBlock] at hk; omega)
  have hC1 := Kd.C_below HC.out.2 hbW
  have hle1 : w.heap.size + 1 ≤ W1.heap.size := by omega
  go_wp2_with (first | ((with_reducible refine gate_builtin (b := .append) (xs := #[.tmp 10, .tmp 11]) rfl ?_); at_builtin; (try rw [hW1]); refine Kd.R_append_rows Kd.string (Rr := Kd.string.K W1) (w0 := W1) (W := W1) (w.heap.size + 1) rfl (.tmp 10) (.tmp 11) 23 9 (.string ⟨#[]⟩) 16 rfl Try.underlying23 info9 rfl (by decide) (by omega) (.slice (some ⟨w.heap.size + 1, 0, none⟩) 0 0) [] names A1 names.length c1 (fun k => w.heap.size + 1 ≤ k) (fun _ => False) rfl rfl hR1 hC1 (fun _ _ h => h) (fun _ h => h.elim) (fun _ hk => by omega) (Below.refl _ _) hle1 (by simp; omega) ?_; intro v1 w2 h2 hb2 hg2 hat))
  have hB2 : Below w.heap.size w w2 := hbW.trans (below_less hb2 (by omega))
  have hs2 := hB2.size
  have H0 : Aside0 (OfM w w2.heap.size (fun k => w.heap.size + 1 ≤ k ∧ k < w2.heap.size) (fun _ => False) v1 (.slice none 0 0) (allE names (E.take 0)) (ofE (E.take 0)) (w2.alloc (Obj.cells #[.slice none 0 0, .slice none 0 0] 29))) := by
    have hb3 : Below w2.heap.size w2 (w2.alloc (Obj.cells #[.slice none 0 0, .slice none 0 0] 29)) := (Below.refl _ w2).alloc (Nat.le_refl _) _
    have hgw : w2.heap[w.heap.size]? = some (.cells #[.slice none 0 0, .slice none 0 0] 29 (0, 0)) := by
      rw [hg2.block w.heap.size (by omega) (fun e => by simp [Value.ownBlock] at e), ← hW1, alloc_old (by rw [alloc_size]; omega)]
      exact alloc_new
    have hlt2 : w.heap.size < w2.heap.size := blk_lt hgw
    refine ⟨hB2.trans (hb3.mono hs2), hlt2, alloc_new, ?_, fun k hk => ⟨by omega, by omega, fun h => h, by rw [alloc_size]; omega⟩, fun k hk => hk.elim, ?_, ?_⟩
    · rw [hb3.block w.heap.size hlt2]; exact hgw
    · have : allE names (E.take 0) = names := by rw [List.take_zero]; unfold allE; simp
      rw [this]
      exact Kd.R_below (Kd.R_mono (Kd.R_bound h2) (fun k hk => ⟨hk.1, hk.2.2.1⟩)) hb3
    · rw [List.take_zero]; exact Kd.R_nil _ _ _ _ _
  obtain ⟨W3, hW3⟩ : ∃ W3, w2.alloc (Obj.cells #[.slice none 0 0, .slice none 0 0] 29) = W3 := ⟨_, rfl⟩
  obtain ⟨b, hb⟩ : ∃ b, w2.heap.size = b := ⟨_, rfl⟩
  rw [hW3, hb] at H0
  rw [hW3, hb]
  obtain ⟨g, hg⟩ : ∃ g, w.heap.size = g := ⟨_, rfl⟩
  have HH := Aside0.mk (And.intro hg (show g < b by have := H0.out.base; omega))
  clear hW1 hW3 hb s1W hbW gW hR1 hC1 hle1 h2 hb2 hg2 hat hB2 hs2
  rw [hg]
  clear hg
  go_loopg [5, 7] (E.length + 1) (fun n v5 v7 wr => ∃ i : Nat, v7 = .int .i64 (i : Int) ∧ Aside0 (i + n = E.length + 1) ∧ ∃ (vE : Value) (okA okE : Nat → Prop), Aside0 (OfM w b okA okE v5 vE (allE names (E.take i)) (ofE (E.take i)) wr))
  case atStart => exact ⟨0, rfl, ⟨by omega⟩, _, _, _, H0⟩
  case round =>
    obtain ⟨i, rfl, ⟨hn⟩, vE, okA, okE, HM⟩ := hrel
    clear H0
    by_cases ci : i < E.length
    case neg =>
      have cib : decide ((i : Int) < (E.length : Int)) = false := decide_eq_false (by omega)
      rw [List.take_of_length_le (by omega)] at HM
      obtain ⟨A5, c5, rfl, hc5, hC5⟩ := Kd.R_reads HM.out.rowA
      have hal := allE_len names E
      obtain ⟨ks, hks⟩ := ev_some (sorted_ev (allE names E) (by omega))
      have hsrt := brickyardref19_Sorted.calls ks A5 c5 (allE names E) _ wr hC5 hc5 hks
      clear hC5 hks hal hc5
      go_wp2_with fail
      refine hsrt.mono ?_
      rintro e w5 ⟨v5, rfl, hR5, hB5⟩
      clear hsrt
      obtain ⟨Av5, cv5, rfl⟩ := Kd.R_slice hR5
      have M5 := HM.out.bel hB5
      have hblk := M5.blk
      have hgb := M5.out
      rw [HH.out.1] at hgb
      have hRE5 := M5.rowE
      obtain ⟨AvE, cvE, rfl⟩ := Kd.R_slice hRE5
      have z6 : w5.cell? ⟨b, 0, none⟩ = some (.slice none 0 0) := by rw [blk_cell' hblk]; rfl
      have z7 : w5.cell? ⟨b, 1, none⟩ = some (.slice AvE (ofE E).length cvE) := by rw [blk_cell' hblk]; rfl
      have z4 : w5.cell? ⟨g, 0, none⟩ = some (.slice none 0 0) := by rw [blk_cell' hgb]; rfl
      have z5 : w5.cell? ⟨g, 1, none⟩ = some (.slice none 0 0) := by rw [blk_cell' hgb]; rfl
      have ngb : g ≠ b := by have := HH.out.2; omega
      have nbg : b ≠ g := by have := HH.out.2; omega
      have f6 := blk_frozen hblk 0
      have f7 := blk_frozen hblk 1
      have f4 := blk_frozen hgb 0
      have f5 := blk_frozen hgb 1
      have HE : Aside0 (∃ (v0 v1 : Value), Ending.returned (.agg #[.slice Av5 (srt (allE names E)).length cv5, .slice AvE (ofE E).length cvE]) = .returned (.agg #[v0, v1]) ∧ Kd.R Kd.string 9 (((w5.setCell ⟨b, 0, none⟩ (.slice Av5 (srt (allE names E)).length cv5)).setCell ⟨g, 0, none⟩ (.slice Av5 (srt (allE names E)).length cv5)).setCell ⟨g, 1, none⟩ (.slice AvE (ofE E).length cvE)) w.heap.size (fun _ => True) v0 (srt (allE names E)) ∧
          Kd.R k45 45 (((w5.setCell ⟨b, 0, none⟩ (.slice Av5 (srt (allE names E)).length cv5)).setCell ⟨g, 0, none⟩ (.slice Av5 (srt (allE names E)).length cv5)).setCell ⟨g, 1, none⟩ (.slice AvE (ofE E).length cvE)) w.heap.size (fun _ => True) v1 (ofE E) ∧
          Below w.heap.size w (((w5.setCell ⟨b, 0, none⟩ (.slice Av5 (srt (allE names E)).length cv5)).setCell ⟨g, 0, none⟩ (.slice Av5 (srt (allE names E)).length cv5)).setCell ⟨g, 1, none⟩ (.slice AvE (ofE E).length cvE))) := ⟨by
        have hgg := HH.out.1
        have hbl := blk_lt HM.out.blk
        have hREb := Kd.R_bound hRE5
        have hgE : ∀ k, (okE k ∧ w.heap.size + 1 ≤ k ∧ k < w5.heap.size ∧ ∃ q, q ∈ 45 :: k45.E ∧ ∃ cells, w5.heap[k]? = some (.cells cells q (0, 0))) → k ≠ b ∧ k ≠ g := fun k hk => ⟨(M5.apE k hk.1).1, fun e => by have := hk.2.1; omega⟩
        refine ⟨_, _, rfl, ?_, ?_, ?_⟩
        · refine Kd.R_mono (Kd.R_lower (Kd.R_far (Kd.R_far (Kd.R_far (Kd.R_bound hR5) (fun k hk => ?_) _) (fun k hk => ?_) _) (fun k hk => ?_) _) HM.out.below.size) (fun _ _ => trivial)
          · show k ≠ b; have := hk.2.1; omega
          · show k ≠ g; have := hk.2.1; have := HH.out.2; omega
          · show k ≠ g; have := hk.2.1; have := HH.out.2; omega
        · refine Kd.R_mono (Kd.R_lower (base' := w.heap.size) (Kd.R_far (Kd.R_far (Kd.R_far hREb (fun k hk => (hgE k hk).1) _) (fun k hk => (hgE k hk).2) _) (fun k hk => (hgE k hk).2) _) (by omega)) (fun _ _ => trivial)
        · refine ((M5.below.setCell (p := ⟨b, 0, none⟩) (Nat.le_of_lt HM.out.base) _).setCell (p := ⟨g, 0, none⟩) (by show w.heap.size ≤ g; omega) _).setCell (p := ⟨g, 1, none⟩) (by show w.heap.size ≤ g; omega) _⟩
      have HGB := Aside0.mk (show (((w5.setCell ⟨b, 0, none⟩ (.slice Av5 (srt (allE names E)).length cv5)).setCell ⟨g, 0, none⟩ (.slice Av5 (srt (allE names E)).length cv5)).setCell ⟨g, 1, none⟩ (.slice AvE (ofE E).length cvE)).heap[g]? = some (.cells #[.slice Av5 (srt (allE names E)).length cv5, .slice AvE (ofE E).length cvE] 29 (0, 0)) from
        blk_set (blk_set (blk_far hgb (p := ⟨b, 0, none⟩) ngb _) 0 _) 1 _)
      clear hR5 hB5 M5 hblk hgb hRE5 HM
      go_wp2_with fail
      refine bodyPost_ret (results_cell_row rfl _ _ g 29 #[.slice Av5 (srt (allE names E)).length cv5, .slice AvE (ofE E).length cvE] (0, 0) _ rfl HGB.out hu29 rfl rfl) rfl ?_
      exact HE.out
    have cib : decide ((i : Int) < (E.length : Int)) = true := decide_eq_true (by omega)
    obtain ⟨ade, had, hw0, hw1⟩ := at_T45 HC.out.1 (i : Int) (Int.natCast_nonneg _) (by omega)
    subst had
    rw [Int.toNat_natCast, get_rdE ci] at hw0 hw1
    have htk : E.take (i + 1) = E.take i ++ [E[i]] := List.take_succ_eq_append_getElem ci
    have hal := allE_len names (E.take i)
    have htl : (E.take i).length ≤ i := by rw [List.length_take]; omega
    have hofl := ofE_len (E.take i)
    obtain ⟨x, hxe⟩ : ∃ x, E[i] = x := ⟨_, rfl⟩
    rw [hxe] at hw0 hw1 htk
    have HK := Aside0.mk (show allE names (E.take (i + 1)) = allE names (E.take i) ++ [x.f0, x.f1] ∧ ofE (E.take (i + 1)) = insE x (ofE (E.take i)) by rw [htk]; exact ⟨allE_snoc _ _ _, ofE_snoc _ _⟩)
    obtain ⟨al, hale⟩ : ∃ al, allE names (E.take i) = al := ⟨_, rfl⟩
    obtain ⟨L, hLe⟩ : ∃ L, ofE (E.take i) = L := ⟨_, rfl⟩
    rw [hale, hLe] at HM HK
    rw [hale] at hal
    rw [hLe] at hofl
    have hall : al.length ≤ 3000000 := by omega
    have hLl : L.length ≤ 1000000 := by omega
    have hxb : ∀ {W : World}, Below w.heap.size w W → W.cell? (ade.add (i * 2)) = some (.string x.f0) ∧ W.cell? ⟨(ade.add (i * 2)).block, (ade.add (i * 2)).off + 1, none⟩ = some (.string x.f1) := fun {W} hb => ⟨(hb.cell (World.block_lt_of_cell? _ _ hw0)).trans hw0, (hb.cell (World.block_lt_of_cell? _ _ hw1)).trans hw1⟩
    obtain ⟨hx0, hx1⟩ := hxb HM.out.below
    have hal2 : al.length + [x.f0, x.f1].length ≤ 3000002 := by simp; omega
    have HXB := Aside0.mk @hxb
    have HXL := Aside0.mk (show (ade.add (i * 2)).block < w.heap.size from World.block_lt_of_cell? _ _ hw0)
    clear hxb hw0 hw1 htk hxe hal htl hofl hale hLe
    obtain ⟨wm, rfl⟩ : ∃ wm : World, wm = wr := ⟨_, rfl⟩
    obtain ⟨gm, rfl⟩ : ∃ gm : Nat, gm = gk := ⟨_, rfl⟩
    go_wp2_with fail
    go_region_held3 (fun W => W.cell? (ade.add (i * 2)) = some (.string x.f0) ∧ W.cell? ⟨(ade.add (i * 2)).block, (ade.add (i * 2)).off + 1, none⟩ = some (.string x.f1)) (first | exact hk9 | exact ⟨hx0, hx1⟩ | exact HXB.out (HM.out.below.trans (Below.mono (show Below wm.heap.size wm _ by repeat (first | exact Below.refl _ _ | apply below_alloc | apply below_drew)) HM.out.below.size))) (first | (refine rows_ev Kd.string (B := w.heap.size + 1) (xs := al) (ys := [x.f0, x.f1]) (okv := okA) (t := 23) (e := 9) (z := .string ⟨#[]⟩) (bytes := 16) (by rfl) (by rfl) (by rfl) (by rfl) Try.underlying23 info9 rfl (by decide) (by omega) (fun x cs h => h) (Kd.R_below HM.out.rowA (by repeat (first | exact Below.refl _ _ | apply below_alloc | apply below_drew))) (pair_C' (by first | exact alloc_new | exact World.alloc_heap_new _ _)) (by have := (HM.out.below).size; have := HM.out.base; have := blk_lt HM.out.blk; simp; omega) (by omega) ?_; intro v9 w9 h9 hg9 hb9; have M9 := Aside0.mk (HM.out.grownA (show Below wm.heap.size wm _ by repeat (first | exact Below.refl _ _ | apply below_alloc | apply below_drew)) h9 hg9); have hk9 : w9.cell? (ade.add (i * 2)) = some (.string x.f0) ∧ w9.cell? ⟨(ade.add (i * 2)).block, (ade.add (i * 2)).off + 1, none⟩ = some (.string x.f1) := HXB.out M9.out.below))
    obtain ⟨okA', hokA'⟩ : ∃ okA' : Nat → Prop, okA' = fun k => (okA k ∨ (wm.alloc (Obj.cells #[Value.string x.f0, Value.string x.f1] 9)).drew.heap.size ≤ k) ∧ k < w9.heap.size := ⟨_, rfl⟩
    rw [← hokA'] at M9
    clear hokA' h9 hg9 hb9 HM hk9 hx0 hx1
    obtain ⟨hx0, hx1⟩ := HXB.out M9.out.below
    obtain ⟨AvE, cvE, rfl, hcvE, hCvE⟩ := Kd.R_reads M9.out.rowE
    have z7 : w9.cell? ⟨b, 1, none⟩ = some (.slice AvE L.length cvE) := by rw [blk_cell' M9.out.blk]; rfl
    go_wp2_with fail
    go_loopg [8] (L.length + 1) (fun n v8 wr2 => ∃ (k nd : Nat), v8 = .int .i64 (k : Int) ∧ Aside0 ((k + n = L.length + 1 ∧ k ≤ L.length) ∧ ∀ y, y ∈ L.take k → ltE y x) ∧ wr2 = w9.drewN nd)
    case atStart => exact ⟨0, 0, rfl, ⟨⟨by omega, by omega⟩, fun y hy => by rw [List.take_zero] at hy; cases hy⟩, (World.drewN_zero w9).symm⟩
    case round =>
      obtain ⟨k, nd, rfl, HI, rfl⟩ := hrel
      have hk1 := HI.out.1.1
      have hk2 := HI.out.1.2
      by_cases ck : k < L.length
      · have ckb : decide ((k : Int) < (L.length : Int)) = true := decide_eq_true (by omega)
        obtain ⟨ady, hady, hy0, hy1⟩ := at_T45 hCvE (k : Int) (Int.natCast_nonneg _) (by omega)
        subst hady
        rw [Int.toNat_natCast, get_rdE ck] at hy0 hy1
        have htk : L.take (k + 1) = L.take k ++ [L[k]] := List.take_succ_eq_append_getElem ck
        have hdr : L.drop k = L[k] :: L.drop (k + 1) := List.drop_eq_getElem_cons ck
        obtain ⟨y, hye⟩ : ∃ y, L[k] = y := ⟨_, rfl⟩
        rw [hye] at hy0 hy1 htk hdr
        by_cases hlt : ltE y x
        · have HN : Aside0 ((k + 1 + (gk - 1) = L.length + 1 ∧ k + 1 ≤ L.length) ∧ ∀ y, y ∈ L.take (k + 1) → ltE y x) := ⟨⟨by omega, by omega⟩, fun z hz => by
            rw [htk] at hz
            rcases List.mem_append.1 hz with hz | hz
            · exact HI.out.2 z hz
            · rw [List.mem_singleton] at hz; rw [hz]; exact hlt⟩
          clear htk hdr hye HI
          by_cases h1 : ltB y.f0 x.f0
          · have d1 : Op.bytesLess y.f0.toList x.f0.toList = true := by rw [less_eq, decide_eq_true h1]
            clear h1 hlt
            go_wp2_with fail
            go_quiet (fail)
            go_wp2_with fail
            go_roundg (gk - 1)
            case measure => omega
            case rel => exact ⟨k + 1, _, by first | rfl | (rw [w64_ (by omega) (by omega)]; rfl) | simp, HN, rfl⟩
          · have d1 : Op.bytesLess y.f0.toList x.f0.toList = false := by rw [less_eq, decide_eq_false h1]
            have h2 := hlt.resolve_left h1
            have e1 : (y.f0.toList == x.f0.toList) = true := beq_iff_eq.2 (toList_eq.2 h2.1)
            have d2 : Op.bytesLess y.f1.toList x.f1.toList = true := by rw [less_eq, decide_eq_true h2.2]
            clear h1 hlt h2
            go_wp2_with fail
            go_quiet (fail)
            go_wp2_with fail
            go_roundg (gk - 1)
            case measure => omega
            case rel => exact ⟨k + 1, _, by first | rfl | (rw [w64_ (by omega) (by omega)]; rfl) | simp, HN, rfl⟩
        · have hsp : L = L.take k ++ y :: L.drop (k + 1) := by rw [← hdr, List.take_append_drop]
          have hins : insE x L = L.take k ++ insE x (y :: L.drop (k + 1)) := by
            conv => lhs; rw [hsp]
            exact insE_skip x _ _ HI.out.2
          have d1 : Op.bytesLess y.f0.toList x.f0.toList = false := by rw [less_eq, decide_eq_false (fun h => hlt (.inl h))]
          by_cases heq : eqE y x
          · have e1 : (y.f0.toList == x.f0.toList) = true := beq_iff_eq.2 (toList_eq.2 heq.1)
            have d2 : Op.bytesLess y.f1.toList x.f1.toList = false := by rw [less_eq, decide_eq_false (fun h => hlt (.inr ⟨heq.1, h⟩))]
            have hq : ∀ W : World, (binOp .eql 45 (.agg #[.string y.f0, .string y.f1]) (.agg #[.string x.f0, .string x.f1])).run Try.prog W = .ok (.bool true) W := fun W => by rw [run_eql45, decide_eq_true heq]
            have HF : Aside0 (∀ n, OfM w b okA' okE v9 (.slice (some ady) L.length cvE) (allE names (E.take (i + 1))) (ofE (E.take (i + 1))) (w9.drewN n)) := ⟨fun n => by
              rw [HK.out.1, HK.out.2, hins, insE, if_neg hlt, if_pos heq, ← hsp]
              exact M9.out.bel (pw_below_drewN (Below.refl _ _) _)⟩
            clear hlt hsp hins HI htk hdr hye heq
            go_wp2_with fail
            go_quiet (fail)
            go_wp2_with fail
            go_quiet (fail)
            go_wp2_with fail
            go_roundg (gm - 1)
            case measure => omega
            case rel => exact ⟨i + 1, by first | rfl | (rw [w64_ (by omega) (by omega)]; rfl) | simp, ⟨by omega⟩, _, _, _, ⟨HF.out _⟩⟩
          · have HIN : Aside0 (insE x L = L.take k ++ [x] ++ L.drop k) := ⟨by rw [hins, insE, if_neg hlt, if_neg heq, hdr, List.append_assoc]; rfl⟩
            have hq : ∀ W : World, (binOp .eql 45 (.agg #[.string y.f0, .string y.f1]) (.agg #[.string x.f0, .string x.f1])).run Try.prog W = .ok (.bool false) W := fun W => by rw [run_eql45, decide_eq_false heq]
            by_cases h1 : y.f0 = x.f0
            · have e1 : (y.f0.toList == x.f0.toList) = true := beq_iff_eq.2 (toList_eq.2 h1)
              have d2 : Op.bytesLess y.f1.toList x.f1.toList = false := by rw [less_eq, decide_eq_false (fun h => hlt (.inr ⟨h1, h⟩))]
              clear hlt hsp hins HI htk hdr hye heq h1
              obtain ⟨⟨A', hcut, hcutC⟩, htake⟩ := cut45 (some ady) cvE L k hk2 hcvE
              have hCd := hcutC w9 hCvE
              have hKM := k45_KM w9.heap.size
              have hll : ([] : List S45).length + (L.length - k) ≤ 1000000 := by simp; omega
              have HIN2 := Aside0.mk (show ofE (E.take (i + 1)) = L.take k ++ [x] ++ L.drop k by rw [HK.out.2, HIN.out])
              have zal : ∀ n, ((w9.drewN n).alloc (.cells #[] 45)).cell? ⟨b, 1, none⟩ = some (.slice (some ady) L.length cvE) := fun n => ((show Below w9.heap.size w9 _ from below_alloc (pw_below_drewN (Below.refl _ _) n) (.cells #[] 45)).cell (World.block_lt_of_cell? _ _ z7)).trans z7
              clear hcutC hCvE HIN
              go_wp2_with fail
              go_quiet (fail)
              go_wp2_with fail
              go_quiet (fail)
              go_wp2_with (first | ((with_reducible refine gate_builtin (b := .append) (xs := #[.tmp 99, .tmp 103]) rfl ?_); at_builtin; refine Kd.R_append_rows k45 (Rr := k45.K _) (w0 := _) w9.heap.size rfl (.tmp 99) (.tmp 103) 22 45 (.agg #[.string ⟨#[]⟩, .string ⟨#[]⟩]) 32 rfl Try.underlying22 info45 rfl (by decide) (by omega) (.slice (some ⟨w9.heap.size, 0, none⟩) 0 0) [] (L.drop k) A' (L.length - k) (cvE - k) (fun q => w9.heap.size ≤ q) (fun _ => False) rfl rfl (rest_lit (w9.drewN _)) (Kd.C_below hCd (show Below w9.heap.size w9 _ from below_alloc (pw_below_drewN (Below.refl _ _) _) _)) (hKM _) (fun _ h => h.elim) (fun q hq => by simp at hq; omega) (Below.refl _ _) (by simp) (by omega) ?_; intro v11 w11 h11 hb11 hg11 hat; have hB11 : Below w9.heap.size w9 w11 := (below_alloc (pw_below_drewN (Below.refl _ _) _) _ : Below w9.heap.size w9 _).trans hb11; rw [List.nil_append] at h11; obtain ⟨A11, c11, rfl⟩ := Kd.R_slice h11))
              have M11 := Aside0.mk (M9.out.bel hB11)
              have hKr := Kd.C_kept_own (S := okE) h11 (fun q hq ho => by have := (M9.out.apE q ho).2.2; omega)
              rw [List.length_drop] at hKr
              have HKr := Aside0.mk hKr
              have hRt : Kd.R k45 45 w11 (w.heap.size + 1) okE (.slice (some ady) k cvE) (L.take k) := Kd.R_take M11.out.rowE hk2
              have htl : (L.take k).length = k := by rw [List.length_take]; omega
              have hdl : (L.drop k).length = L.length - k := List.length_drop
              have HL3 := Aside0.mk (show (L.take k ++ [x] ++ L.drop k).length = k + (L.length - k + 1) by simp only [List.length_append, List.length_singleton, htl, hdl]; omega)
              have hbz : w.heap.size + 1 ≤ w11.heap.size := by have := M11.out.base; have := blk_lt M11.out.blk; omega
              have HRt := Aside0.mk (And.intro hRt (And.intro htl (And.intro hdl hbz)))
              obtain ⟨hx0, hx1⟩ := HXB.out M11.out.below
              have z7' : w11.cell? ⟨b, 1, none⟩ = some (.slice (some ady) L.length cvE) := by rw [blk_cell' M11.out.blk]; rfl
              have f7 := blk_frozen M11.out.blk 1
              have zal2 := ((show Below w11.heap.size w11 _ from below_alloc (Below.refl _ _) (Obj.cells #[Value.string x.f0, Value.string x.f1] 45)).cell (World.block_lt_of_cell? _ _ z7')).trans z7'
              have HS := Aside0.mk (show ∀ W : World, Kept w11 W okE → W.cell? (ade.add (i * 2)) = some (.string x.f0) ∧ W.cell? ⟨(ade.add (i * 2)).block, (ade.add (i * 2)).off + 1, none⟩ = some (.string x.f1) from fun W hk => ⟨cell_kept hx0 hk (fun h => by have := (M11.out.apE _ h).2.1; have := HXL.out; omega), cell_kept hx1 hk (fun h => by have : w.heap.size < (ade.add (i * 2)).block := (M11.out.apE _ h).2.1; have := HXL.out; omega)⟩)
              clear hKr hRt htl hdl hbz h11 hb11 hg11 hat hB11 zal hcut hCd hKM hll z7
              go_region_law (first
                | (refine rows_ev k45 (A' := some ⟨w11.heap.size, 0, none⟩) (m := 1) (c := 1) (B := w.heap.size + 1) (xs := L.take k) (ys := [x]) (okv := okE) (v := .slice (some ady) k cvE) (t := 22) (e := 45) (z := .agg #[.string ⟨#[]⟩, .string ⟨#[]⟩]) (bytes := 32) (s := .tmp 108) (y := .tmp 113) (by rfl) (by rfl) (by rfl) (by rfl) Try.underlying22 info45 rfl (by decide) (by omega) (k45_KM _ _) (Kd.R_below HRt.out.1 (by repeat (first | exact Below.refl _ _ | apply below_alloc | apply below_drew))) (lit45_C (by first | exact alloc_new | exact World.alloc_heap_new _ _)) (by have := HRt.out.2.2.2; simp; omega) (by have := HRt.out.2.1; simp; omega) ?_; intro vA wA hA hgA hbA; have hrA := fun (q : Nat) e => HRt.out.1.1 q e; have hKA := Kept.of_grown hgA (Kept.of_below (show Below w11.heap.size w11 _ by repeat (first | exact Below.refl _ _ | apply below_alloc | apply below_drew)) okE) (fun q e => .inl (hrA q e)))
                | (refine rows_ev k45 (A' := A11) (m := L.length - k) (c := c11) (B := w.heap.size + 1) (xs := L.take k ++ [x]) (ys := L.drop k) (v := vA) (t := 22) (e := 45) (z := .agg #[.string ⟨#[]⟩, .string ⟨#[]⟩]) (bytes := 32) (s := .tmp 114) (y := .tmp 115) (by rfl) (by rfl) (by rfl) (by rfl) Try.underlying22 info45 rfl (by decide) (by omega) (k45_KM _ _) (Kd.R_below hA (by repeat (first | exact Below.refl _ _ | apply below_alloc | apply below_drew))) (HKr.out _ (Kept.below hKA (by repeat (first | exact Below.refl _ _ | apply below_alloc | apply below_drew)))) (by have := HRt.out.2.2.2; have := hKA.1; simp; omega) (by have := HRt.out.2.1; have := HRt.out.2.2.1; rw [List.length_append, List.length_singleton]; omega) ?_; intro vB wB hB hgB hbB; obtain ⟨AB, cB, rfl⟩ := Kd.R_slice hB; have MB := Aside0.mk (OfM.insert M11.out (show Below w11.heap.size w11 _ by repeat (first | exact Below.refl _ _ | apply below_alloc | apply below_drew)) hgA hrA (show Below wA.heap.size wA _ by repeat (first | exact Below.refl _ _ | apply below_alloc | apply below_drew)) hgB (fun q e => hA.1 q e) hB (fun q hq => by rcases hq with h | h; exact h; exact .inr (Nat.le_trans (hgA.size) (Nat.le_trans (show Below wA.heap.size wA _ by repeat (first | exact Below.refl _ _ | apply below_alloc | apply below_drew)).size h)))); rw [HL3.out] at MB; have hKB : Kept w11 wB okE := Kept.of_grown hgB (Kept.below hKA (show Below wA.heap.size wA _ by repeat (first | exact Below.refl _ _ | apply below_alloc | apply below_drew))) (fun q e => by rcases hA.1 q e with h | h; exact .inl h; exact .inr (by simp at h; omega)); have zB := cell_kept z7' hKB (fun h => (M11.out.apE _ h).1 rfl); have fB := blk_frozen (blk_kept M11.out.blk hKB (fun h => (M11.out.apE _ h).1 rfl)) 1))
              all_goals rw [← HIN2.out, ← HK.out.1] at MB
              all_goals clear hA hgA hbA hrA hKA hB hgB hbB hKB zB fB f7 zal2 z7' hx0 hx1
              all_goals go_wp2_with fail
              all_goals go_roundg (gm - 1)
              all_goals first | omega | exact ⟨i + 1, by first | rfl | (rw [w64_ (by omega) (by omega)]; rfl) | simp, ⟨by omega⟩, _, _, _, MB⟩
            · have e1 : (y.f0.toList == x.f0.toList) = false := beq_eq_false_iff_ne.2 (fun h => h1 (toList_eq.1 h))
              clear hlt hsp hins HI htk hdr hye heq h1
              obtain ⟨⟨A', hcut, hcutC⟩, htake⟩ := cut45 (some ady) cvE L k hk2 hcvE
              have hCd := hcutC w9 hCvE
              have hKM := k45_KM w9.heap.size
              have hll : ([] : List S45).length + (L.length - k) ≤ 1000000 := by simp; omega
              have HIN2 := Aside0.mk (show ofE (E.take (i + 1)) = L.take k ++ [x] ++ L.drop k by rw [HK.out.2, HIN.out])
              have zal : ∀ n, ((w9.drewN n).alloc (.cells #[] 45)).cell? ⟨b, 1, none⟩ = some (.slice (some ady) L.length cvE) := fun n => ((show Below w9.heap.size w9 _ from below_alloc (pw_below_drewN (Below.refl _ _) n) (.cells #[] 45)).cell (World.block_lt_of_cell? _ _ z7)).trans z7
              clear hcutC hCvE HIN
              go_wp2_with fail
              go_quiet (fail)
              go_wp2_with fail
              go_quiet (fail)
              go_wp2_with (first | ((with_reducible refine gate_builtin (b := .append) (xs := #[.tmp 99, .tmp 103]) rfl ?_); at_builtin; refine Kd.R_append_rows k45 (Rr := k45.K _) (w0 := _) w9.heap.size rfl (.tmp 99) (.tmp 103) 22 45 (.agg #[.string ⟨#[]⟩, .string ⟨#[]⟩]) 32 rfl Try.underlying22 info45 rfl (by decide) (by omega) (.slice (some ⟨w9.heap.size, 0, none⟩) 0 0) [] (L.drop k) A' (L.length - k) (cvE - k) (fun q => w9.heap.size ≤ q) (fun _ => False) rfl rfl (rest_lit (w9.drewN _)) (Kd.C_below hCd (show Below w9.heap.size w9 _ from below_alloc (pw_below_drewN (Below.refl _ _) _) _)) (hKM _) (fun _ h => h.elim) (fun q hq => by simp at hq; omega) (Below.refl _ _) (by simp) (by omega) ?_; intro v11 w11 h11 hb11 hg11 hat; have hB11 : Below w9.heap.size w9 w11 := (below_alloc (pw_below_drewN (Below.refl _ _) _) _ : Below w9.heap.size w9 _).trans hb11; rw [List.nil_append] at h11; obtain ⟨A11, c11, rfl⟩ := Kd.R_slice h11))
              have M11 := Aside0.mk (M9.out.bel hB11)
              have hKr := Kd.C_kept_own (S := okE) h11 (fun q hq ho => by have := (M9.out.apE q ho).2.2; omega)
              rw [List.length_drop] at hKr
              have HKr := Aside0.mk hKr
              have hRt : Kd.R k45 45 w11 (w.heap.size + 1) okE (.slice (some ady) k cvE) (L.take k) := Kd.R_take M11.out.rowE hk2
              have htl : (L.take k).length = k := by rw [List.length_take]; omega
              have hdl : (L.drop k).length = L.length - k := List.length_drop
              have HL3 := Aside0.mk (show (L.take k ++ [x] ++ L.drop k).length = k + (L.length - k + 1) by simp only [List.length_append, List.length_singleton, htl, hdl]; omega)
              have hbz : w.heap.size + 1 ≤ w11.heap.size := by have := M11.out.base; have := blk_lt M11.out.blk; omega
              have HRt := Aside0.mk (And.intro hRt (And.intro htl (And.intro hdl hbz)))
              obtain ⟨hx0, hx1⟩ := HXB.out M11.out.below
              have z7' : w11.cell? ⟨b, 1, none⟩ = some (.slice (some ady) L.length cvE) := by rw [blk_cell' M11.out.blk]; rfl
              have f7 := blk_frozen M11.out.blk 1
              have zal2 := ((show Below w11.heap.size w11 _ from below_alloc (Below.refl _ _) (Obj.cells #[Value.string x.f0, Value.string x.f1] 45)).cell (World.block_lt_of_cell? _ _ z7')).trans z7'
              have HS := Aside0.mk (show ∀ W : World, Kept w11 W okE → W.cell? (ade.add (i * 2)) = some (.string x.f0) ∧ W.cell? ⟨(ade.add (i * 2)).block, (ade.add (i * 2)).off + 1, none⟩ = some (.string x.f1) from fun W hk => ⟨cell_kept hx0 hk (fun h => by have := (M11.out.apE _ h).2.1; have := HXL.out; omega), cell_kept hx1 hk (fun h => by have : w.heap.size < (ade.add (i * 2)).block := (M11.out.apE _ h).2.1; have := HXL.out; omega)⟩)
              clear hKr hRt htl hdl hbz h11 hb11 hg11 hat hB11 zal hcut hCd hKM hll z7
              go_region_law (first
                | (refine rows_ev k45 (A' := some ⟨w11.heap.size, 0, none⟩) (m := 1) (c := 1) (B := w.heap.size + 1) (xs := L.take k) (ys := [x]) (okv := okE) (v := .slice (some ady) k cvE) (t := 22) (e := 45) (z := .agg #[.string ⟨#[]⟩, .string ⟨#[]⟩]) (bytes := 32) (s := .tmp 108) (y := .tmp 113) (by rfl) (by rfl) (by rfl) (by rfl) Try.underlying22 info45 rfl (by decide) (by omega) (k45_KM _ _) (Kd.R_below HRt.out.1 (by repeat (first | exact Below.refl _ _ | apply below_alloc | apply below_drew))) (lit45_C (by first | exact alloc_new | exact World.alloc_heap_new _ _)) (by have := HRt.out.2.2.2; simp; omega) (by have := HRt.out.2.1; simp; omega) ?_; intro vA wA hA hgA hbA; have hrA := fun (q : Nat) e => HRt.out.1.1 q e; have hKA := Kept.of_grown hgA (Kept.of_below (show Below w11.heap.size w11 _ by repeat (first | exact Below.refl _ _ | apply below_alloc | apply below_drew)) okE) (fun q e => .inl (hrA q e)))
                | (refine rows_ev k45 (A' := A11) (m := L.length - k) (c := c11) (B := w.heap.size + 1) (xs := L.take k ++ [x]) (ys := L.drop k) (v := vA) (t := 22) (e := 45) (z := .agg #[.string ⟨#[]⟩, .string ⟨#[]⟩]) (bytes := 32) (s := .tmp 114) (y := .tmp 115) (by rfl) (by rfl) (by rfl) (by rfl) Try.underlying22 info45 rfl (by decide) (by omega) (k45_KM _ _) (Kd.R_below hA (by repeat (first | exact Below.refl _ _ | apply below_alloc | apply below_drew))) (HKr.out _ (Kept.below hKA (by repeat (first | exact Below.refl _ _ | apply below_alloc | apply below_drew)))) (by have := HRt.out.2.2.2; have := hKA.1; simp; omega) (by have := HRt.out.2.1; have := HRt.out.2.2.1; rw [List.length_append, List.length_singleton]; omega) ?_; intro vB wB hB hgB hbB; obtain ⟨AB, cB, rfl⟩ := Kd.R_slice hB; have MB := Aside0.mk (OfM.insert M11.out (show Below w11.heap.size w11 _ by repeat (first | exact Below.refl _ _ | apply below_alloc | apply below_drew)) hgA hrA (show Below wA.heap.size wA _ by repeat (first | exact Below.refl _ _ | apply below_alloc | apply below_drew)) hgB (fun q e => hA.1 q e) hB (fun q hq => by rcases hq with h | h; exact h; exact .inr (Nat.le_trans (hgA.size) (Nat.le_trans (show Below wA.heap.size wA _ by repeat (first | exact Below.refl _ _ | apply below_alloc | apply below_drew)).size h)))); rw [HL3.out] at MB; have hKB : Kept w11 wB okE := Kept.of_grown hgB (Kept.below hKA (show Below wA.heap.size wA _ by repeat (first | exact Below.refl _ _ | apply below_alloc | apply below_drew))) (fun q e => by rcases hA.1 q e with h | h; exact .inl h; exact .inr (by simp at h; omega)); have zB := cell_kept z7' hKB (fun h => (M11.out.apE _ h).1 rfl); have fB := blk_frozen (blk_kept M11.out.blk hKB (fun h => (M11.out.apE _ h).1 rfl)) 1))
              all_goals rw [← HIN2.out, ← HK.out.1] at MB
              all_goals clear hA hgA hbA hrA hKA hB hgB hbB hKB zB fB f7 zal2 z7' hx0 hx1
              all_goals go_wp2_with fail
              all_goals go_roundg (gm - 1)
              all_goals first | omega | exact ⟨i + 1, by first | rfl | (rw [w64_ (by omega) (by omega)]; rfl) | simp, ⟨by omega⟩, _, _, _, MB⟩
      · have ckb : decide ((k : Int) < (L.length : Int)) = false := decide_eq_false (by omega)
        have HIN : Aside0 (insE x L = L.take k ++ [x] ++ L.drop k) := ⟨by
          have e1 : L.take k = L := List.take_of_length_le (by omega)
          have h2 := HI.out.2
          rw [e1] at h2
          rw [e1, List.drop_of_length_le (by omega), List.append_nil]
          have := insE_skip x L [] h2
          rwa [List.append_nil] at this⟩
        clear HI
        obtain ⟨⟨A', hcut, hcutC⟩, htake⟩ := cut45 AvE cvE L k hk2 hcvE
        have hCd := hcutC w9 hCvE
        have hKM := k45_KM w9.heap.size
        have hll : ([] : List S45).length + (L.length - k) ≤ 1000000 := by simp; omega
        have HIN2 := Aside0.mk (show ofE (E.take (i + 1)) = L.take k ++ [x] ++ L.drop k by rw [HK.out.2, HIN.out])
        have zal : ∀ n, ((w9.drewN n).alloc (.cells #[] 45)).cell? ⟨b, 1, none⟩ = some (.slice AvE L.length cvE) := fun n => ((show Below w9.heap.size w9 _ from below_alloc (pw_below_drewN (Below.refl _ _) n) (.cells #[] 45)).cell (World.block_lt_of_cell? _ _ z7)).trans z7
        clear hcutC hCvE HIN
        go_wp2_with fail
        go_quiet (fail)
        go_wp2_with fail
        go_quiet (fail)
        go_wp2_with (first | ((with_reducible refine gate_builtin (b := .append) (xs := #[.tmp 99, .tmp 103]) rfl ?_); at_builtin; refine Kd.R_append_rows k45 (Rr := k45.K _) (w0 := _) w9.heap.size rfl (.tmp 99) (.tmp 103) 22 45 (.agg #[.string ⟨#[]⟩, .string ⟨#[]⟩]) 32 rfl Try.underlying22 info45 rfl (by decide) (by omega) (.slice (some ⟨w9.heap.size, 0, none⟩) 0 0) [] (L.drop k) A' (L.length - k) (cvE - k) (fun q => w9.heap.size ≤ q) (fun _ => False) rfl rfl (rest_lit (w9.drewN _)) (Kd.C_below hCd (show Below w9.heap.size w9 _ from below_alloc (pw_below_drewN (Below.refl _ _) _) _)) (hKM _) (fun _ h => h.elim) (fun q hq => by simp at hq; omega) (Below.refl _ _) (by simp) (by omega) ?_; intro v11 w11 h11 hb11 hg11 hat; have hB11 : Below w9.heap.size w9 w11 := (below_alloc (pw_below_drewN (Below.refl _ _) _) _ : Below w9.heap.size w9 _).trans hb11; rw [List.nil_append] at h11; obtain ⟨A11, c11, rfl⟩ := Kd.R_slice h11))
        have M11 := Aside0.mk (M9.out.bel hB11)
        have hKr := Kd.C_kept_own (S := okE) h11 (fun q hq ho => by have := (M9.out.apE q ho).2.2; omega)
        rw [List.length_drop] at hKr
        have HKr := Aside0.mk hKr
        have hRt : Kd.R k45 45 w11 (w.heap.size + 1) okE (.slice AvE k cvE) (L.take k) := Kd.R_take M11.out.rowE hk2
        have htl : (L.take k).length = k := by rw [List.length_take]; omega
        have hdl : (L.drop k).length = L.length - k := List.length_drop
        have HL3 := Aside0.mk (show (L.take k ++ [x] ++ L.drop k).length = k + (L.length - k + 1) by simp only [List.length_append, List.length_singleton, htl, hdl]; omega)
        have hbz : w.heap.size + 1 ≤ w11.heap.size := by have := M11.out.base; have := blk_lt M11.out.blk; omega
        have HRt := Aside0.mk (And.intro hRt (And.intro htl (And.intro hdl hbz)))
        obtain ⟨hx0, hx1⟩ := HXB.out M11.out.below
        have z7' : w11.cell? ⟨b, 1, none⟩ = some (.slice AvE L.length cvE) := by rw [blk_cell' M11.out.blk]; rfl
        have f7 := blk_frozen M11.out.blk 1
        have zal2 := ((show Below w11.heap.size w11 _ from below_alloc (Below.refl _ _) (Obj.cells #[Value.string x.f0, Value.string x.f1] 45)).cell (World.block_lt_of_cell? _ _ z7')).trans z7'
        have HS := Aside0.mk (show ∀ W : World, Kept w11 W okE → W.cell? (ade.add (i * 2)) = some (.string x.f0) ∧ W.cell? ⟨(ade.add (i * 2)).block, (ade.add (i * 2)).off + 1, none⟩ = some (.string x.f1) from fun W hk => ⟨cell_kept hx0 hk (fun h => by have := (M11.out.apE _ h).2.1; have := HXL.out; omega), cell_kept hx1 hk (fun h => by have : w.heap.size < (ade.add (i * 2)).block := (M11.out.apE _ h).2.1; have := HXL.out; omega)⟩)
        clear hKr hRt htl hdl hbz h11 hb11 hg11 hat hB11 zal hcut hCd hKM hll z7
        go_region_law (first
          | (refine rows_ev k45 (A' := some ⟨w11.heap.size, 0, none⟩) (m := 1) (c := 1) (B := w.heap.size + 1) (xs := L.take k) (ys := [x]) (okv := okE) (v := .slice AvE k cvE) (t := 22) (e := 45) (z := .agg #[.string ⟨#[]⟩, .string ⟨#[]⟩]) (bytes := 32) (s := .tmp 108) (y := .tmp 113) (by rfl) (by rfl) (by rfl) (by rfl) Try.underlying22 info45 rfl (by decide) (by omega) (k45_KM _ _) (Kd.R_below HRt.out.1 (by repeat (first | exact Below.refl _ _ | apply below_alloc | apply below_drew))) (lit45_C (by first | exact alloc_new | exact World.alloc_heap_new _ _)) (by have := HRt.out.2.2.2; simp; omega) (by have := HRt.out.2.1; simp; omega) ?_; intro vA wA hA hgA hbA; have hrA := fun (q : Nat) e => HRt.out.1.1 q e; have hKA := Kept.of_grown hgA (Kept.of_below (show Below w11.heap.size w11 _ by repeat (first | exact Below.refl _ _ | apply below_alloc | apply below_drew)) okE) (fun q e => .inl (hrA q e)))
          | (refine rows_ev k45 (A' := A11) (m := L.length - k) (c := c11) (B := w.heap.size + 1) (xs := L.take k ++ [x]) (ys := L.drop k) (v := vA) (t := 22) (e := 45) (z := .agg #[.string ⟨#[]⟩, .string ⟨#[]⟩]) (bytes := 32) (s := .tmp 114) (y := .tmp 115) (by rfl) (by rfl) (by rfl) (by rfl) Try.underlying22 info45 rfl (by decide) (by omega) (k45_KM _ _) (Kd.R_below hA (by repeat (first | exact Below.refl _ _ | apply below_alloc | apply below_drew))) (HKr.out _ (Kept.below hKA (by repeat (first | exact Below.refl _ _ | apply below_alloc | apply below_drew)))) (by have := HRt.out.2.2.2; have := hKA.1; simp; omega) (by have := HRt.out.2.1; have := HRt.out.2.2.1; rw [List.length_append, List.length_singleton]; omega) ?_; intro vB wB hB hgB hbB; obtain ⟨AB, cB, rfl⟩ := Kd.R_slice hB; have MB := Aside0.mk (OfM.insert M11.out (show Below w11.heap.size w11 _ by repeat (first | exact Below.refl _ _ | apply below_alloc | apply below_drew)) hgA hrA (show Below wA.heap.size wA _ by repeat (first | exact Below.refl _ _ | apply below_alloc | apply below_drew)) hgB (fun q e => hA.1 q e) hB (fun q hq => by rcases hq with h | h; exact h; exact .inr (Nat.le_trans (hgA.size) (Nat.le_trans (show Below wA.heap.size wA _ by repeat (first | exact Below.refl _ _ | apply below_alloc | apply below_drew)).size h)))); rw [HL3.out] at MB; have hKB : Kept w11 wB okE := Kept.of_grown hgB (Kept.below hKA (show Below wA.heap.size wA _ by repeat (first | exact Below.refl _ _ | apply below_alloc | apply below_drew))) (fun q e => by rcases hA.1 q e with h | h; exact .inl h; exact .inr (by simp at h; omega)); have zB := cell_kept z7' hKB (fun h => (M11.out.apE _ h).1 rfl); have fB := blk_frozen (blk_kept M11.out.blk hKB (fun h => (M11.out.apE _ h).1 rfl)) 1))
        all_goals rw [← HIN2.out, ← HK.out.1] at MB
        all_goals clear hA hgA hbA hrA hKA hB hgB hbB hKB zB fB f7 zal2 z7' hx0 hx1
        all_goals go_wp2_with fail
        all_goals go_roundg (gm - 1)
        all_goals first | omega | exact ⟨i + 1, by first | rfl | (rw [w64_ (by omega) (by omega)]; rfl) | simp, ⟨by omega⟩, _, _, _, MB⟩
end
end Go.Proofs.Ytmhbdgnajlnhnaa.P
