/- DepfileParses' own function: what memory holds between its rounds. -/
import Derived.Test.YtahdgaaedilcmaaGW
import Derived.Test.YtahdgaaedilcmaaPx0
import Derived.Test.YtahdgaaedilcmaaProg
import Derived.Test.YtahdgaaedilcmaaPlDepR
import Derived.Test.YtahdgaaedilcmaaPlDepU
import Derived.Test.YtahdgaaedilcmaaPxe0
import Derived.BigQuiet
import Derived.Deep.AppendLies
namespace Go.Proofs.Ytahdgaaedilcmaa.P
open Go.RowKit Go.Proofs.YtahdgaaedilcmaaW.PrintWords Go.Proofs.YtahdgaaedilcmaaW.PrintLast Go.Proofs.YtahdgaaedilcmaaW.PrintMore
set_option linter.unusedVariables false
set_option linter.unusedSimpArgs false

/-- Two lists of rules apart, a place (at R) apart from both. -/
def LMem (w : World) (P R : Nat) (e1 e2 : Int) (vA : Value) (a : List S32) (vB : Value) (b : List S32) (wr : World) : Prop :=
  Below w.heap.size w wr ∧ w.heap.size ≤ P ∧ P < R ∧ R < wr.heap.size ∧ wr.heap[R]? = some (.cells #[.int .i64 e1, .int .i64 e2] 26 (0, 0)) ∧
  Kd.S k32 32 wr w.heap.size (fun k => k < P ∨ R < k) vA a ∧ Kd.S k32 32 wr w.heap.size (fun k => P < k ∧ k < R) vB b
section
variable {w : World} {P R : Nat} {e1 e2 : Int} {vA vB : Value} {a b : List S32} {wr : World}
theorem LMem.below_ (h : LMem w P R e1 e2 vA a vB b wr) {w1 : World} (hb1 : Below wr.heap.size wr w1) : LMem w P R e1 e2 vA a vB b w1 := by
  obtain ⟨hb, h1, h2, h3, h4, hA, hB⟩ := h
  have := hb1.size
  have := hb.size
  exact ⟨below_then hb (by omega) hb1, h1, h2, by omega, blk_below h4 hb1, Kd.S_below hA hb1, Kd.S_below hB hb1⟩
end
theorem LMem.start {w w1 w2 w3 : World} {e1 e2 : Int} {vA vB : Value} {a b : List S32} (hb1 : Below w.heap.size w w1) (hSA : Kd.S k32 32 w2 w1.heap.size (fun _ => True) vA a) (hbA : Below w1.heap.size w1 w2)
    (hSB : Kd.S k32 32 w3 (w2.alloc (.cells #[.int .i64 e1, .int .i64 e2] 26)).heap.size (fun _ => True) vB b) (hbB : Below (w2.alloc (.cells #[.int .i64 e1, .int .i64 e2] 26)).heap.size (w2.alloc (.cells #[.int .i64 e1, .int .i64 e2] 26)) w3) :
    LMem w w2.heap.size w3.heap.size e1 e2 vA a vB b (w3.alloc (.cells #[.int .i64 e1, .int .i64 e2] 26)) := by
  have s1 := hb1.size
  have s2 := hbA.size
  have s3 := hbB.size
  have e : (w2.alloc (.cells #[.int .i64 e1, .int .i64 e2] 26)).heap.size = w2.heap.size + 1 := by simp
  have hb2 := below_then hb1 s1 hbA
  have hbox : Below w2.heap.size w2 (w2.alloc (.cells #[.int .i64 e1, .int .i64 e2] 26)) := (Below.refl _ _).alloc (Nat.le_refl _) _
  have h23 : Below w2.heap.size w2 w3 := hbox.trans (hbB.mono (by omega))
  have hA3 := Kd.S_below hSA h23
  rw [e] at hSB s3
  refine ⟨(below_then hb2 (by omega) h23).alloc (by omega) _, by omega, by omega, by simp, blk_new w3 _, Kd.S_alloc (Kd.S_lower (Kd.S_mono ?_ (fun k hk => .inl hk)) s1) _, Kd.S_alloc (Kd.S_lower (Kd.S_mono (Kd.S_bound hSB) (fun k hk => ⟨by omega, hk.2.2.1⟩)) (by omega)) _⟩
  exact Kd.S_mono (Kd.S_below (Kd.S_bound hSA) h23) (fun k hk => hk.2.2.1)
section
variable {w : World} {P R : Nat} {e1 e2 : Int} {vA vB : Value} {a b : List S32} {wr : World}
/-- Element i's texts: where they lie; what an append to none of them and a store of the new row leave. -/
theorem LMem.elem {g n c : Nat} (h : LMem w P R e1 e2 (.slice (some ⟨g, 0, none⟩) n c) a vB b wr) (i : Nat) (hi : i < n) :
    ∃ (AD : Option Addr) (nD cD : Nat), wr.cell? ⟨g, i * 2 + 1, none⟩ = some (.slice AD nD cD) ∧ wr.frozen? ⟨g, i * 2 + 1, none⟩ = false ∧ nD ≤ cD ∧ (∀ k, (Value.slice AD 0 cD).ownBlock = some k → k ≠ g) ∧
      (∃ oki, Kd.R Kd.string 9 wr w.heap.size oki (.slice AD 0 cD) [] ∧ (∀ k, oki k → (k < P ∨ R < k) ∧ k ≠ g) ∧
        ∀ (w1 : World) (v1 : Value) (x : ByteArray), Kd.R Kd.string 9 w1 w.heap.size (fun k => oki k ∨ wr.heap.size ≤ k) v1 [x] → wr.grownBy w1 (Value.slice AD 0 cD).ownBlock → Below w.heap.size w w1 →
          LMem w P R e1 e2 (.slice (some ⟨g, 0, none⟩) n c) (a.set i ⟨(a.getD i z32).f0, [x]⟩) vB b (w1.setCell ⟨g, i * 2 + 1, none⟩ v1)) := by
  obtain ⟨hb, h1, h2, h3, h4, hA, hB⟩ := h
  obtain ⟨oki, cs, hcl, hM, hcc, hfr, hoki, hH⟩ := Kd.S_elem hA z32 (i : Int) (Int.natCast_nonneg _) (by omega)
  simp only [Int.toNat_natCast] at *
  obtain ⟨vD, rfl, hR⟩ := k32_openM hM
  obtain ⟨AD, cD, rfl⟩ := Kd.R_slice hR
  have hR0 := Kd.R_take (m := 0) hR (Nat.zero_le _)
  have hc1 : wr.cell? ⟨g, i * 2 + 1, none⟩ = some (.slice AD (a.getD i z32).f1.length cD) := hcc 1 _ rfl
  have hf1 : wr.frozen? ⟨g, i * 2 + 1, none⟩ = false := hfr 1
  rw [List.take_zero] at hR0
  have hok0 := hR0.1
  refine ⟨AD, _, cD, hc1, hf1, ?_, fun k hk => (hoki k (hok0 k hk)).2, oki, hR0, hoki, ?_⟩
  · obtain ⟨A2, c2, e, hle, _⟩ := Kd.R_reads hR
    injection e with ea en ec
    omega
  intro w1 v1 x hR1 hg hb1
  have hsz := hg.size
  have hH1 := Kd.H_grown (Kd.H_widen hH) hg (fun k hk => .inl (hok0 k hk))
  have hg4 : w1.heap[R]? = some (.cells #[.int .i64 e1, .int .i64 e2] 26 (0, 0)) := blk_grown h4 hg (fun he => by have := (hoki R (hok0 R he.symm)).1; omega)
  have hB1 := Kd.S_grown hB hg (fun k hk he => by have := (hoki k (hok0 k he.symm)).1; omega)
  obtain ⟨A1, c1, rfl⟩ := Kd.R_slice hR1
  have hMx : k32.M w1 w.heap.size (fun k => oki k ∨ (k < P ∨ R < k) ∧ wr.heap.size ≤ k) ⟨(a.getD i z32).f0, [x]⟩ [.string (a.getD i z32).f0, .slice A1 ([x] : List ByteArray).length c1] :=
    k32_mkM w1 w.heap.size _ ⟨(a.getD i z32).f0, [x]⟩ (Kd.R_mono hR1 (fun k hk => hk.elim .inl (fun h => .inr ⟨.inr (by omega), h⟩)))
  have hfin := Kd.S_seg (okg := fun _ => False) (seg := [.slice A1 ([x] : List ByteArray).length c1]) (j := 1) (Kd.H_mono hH1 (fun k hk => ⟨hk, fun h => h⟩)) (Int.natCast_nonneg _) (by omega) (show 1 + 1 ≤ 2 by decide) hMx (fun k hk => .inl hk) (fun _ h => h.elim)
  simp only [Int.toNat_natCast] at hfin
  have hgs := hfin.2
  have he : w1.setCells g (i * 2 + 1) [.slice A1 ([x] : List ByteArray).length c1] = w1.setCell ⟨g, i * 2 + 1, none⟩ (.slice A1 ([x] : List ByteArray).length c1) := by
    first | rfl | simp [World.setCells]
  have hS : Kd.S k32 32 (w1.setCells g (i * 2 + 1) [.slice A1 ([x] : List ByteArray).length c1]) w.heap.size (fun k => k < P ∨ R < k) (.slice (some ⟨g, 0, none⟩) n c) (a.set i ⟨(a.getD i z32).f0, [x]⟩) := hfin.1
  rw [he] at hS
  have hgl : g < P ∨ R < g := (Kd.S_R hA).1 g (by simp [Value.ownBlock])
  have hgb : w.heap.size ≤ g := Kd.S_base hA g (by simp [Value.ownBlock])
  refine ⟨hb1.setCell (p := ⟨g, i * 2 + 1, none⟩) hgb _, h1, h2, by simp; omega, blk_far hg4 (by show R ≠ g; omega) _, hS, Kd.S_far hB1 (fun k hk => by show k ≠ g; omega) _⟩
end
/-- xs[i+1:], of rules -/
theorem rules_cut (A : Option Addr) (n c i : Nat) (hj : i + 1 ≤ n) : ∃ A' : Option Addr, (∀ W : World, (Instr.slice 23 (.slice A n c) (some (.int .i64 ((i : Int) + 1))) none none).run Try.prog W = .ok (.slice A' (n - (i + 1)) (c - (i + 1))) W) ∧
    ∀ (w' : World) (xs : List S32), xs.length = n → n ≤ c → Kd.C k32 w' A n xs → Kd.C k32 w' A' (xs.drop (i + 1)).length (xs.drop (i + 1)) := by
  obtain ⟨i0, hi0, hzz⟩ := Option.map_eq_some_iff.1 info32
  simp only [Prod.mk.injEq] at hzz
  have h := cut_from (P := Try.prog) 23 32 .i64 Try.underlying23 hi0 2 hzz.2.1 A n c ((i : Int) + 1) (by omega) (by omega)
  rw [show ((i : Int) + 1).toNat = i + 1 by omega] at h
  refine ⟨_, h, fun w' xs hx hc hC => ?_⟩
  subst hx
  exact Kd.C_drop hC hj hc
/-- append(l[:0], x) -/
theorem gone_event {w0 wr : World} {base : Nat} {AD : Option Addr} {cD : Nat} {oki : Nat → Prop} {x : ByteArray} {ops : Array Oper} {rest : List Oper} {o : Oper} {a : Act} {Q : Exit → Act → World → Prop}
    (hgd : o.guard = none) (ho : o.op = .call { callee := .builtin .append, args := #[.tmp 62, .tmp 63], argTypes := #[30, 30] }) (hs : a.eval (.tmp 62) = .slice AD 0 cD) (hx : a.eval (.tmp 63) = .slice (some ⟨wr.heap.size, 0, none⟩) 1 1)
    (hR : Kd.R Kd.string 9 wr base oki (.slice AD 0 cD) []) (hB : Below base w0 wr) (hb : base ≤ wr.heap.size)
    (h : ∀ (A6 : Option Addr) (c6 : Nat) (w1 : World), Kd.R Kd.string 9 w1 base (fun k => oki k ∨ wr.heap.size ≤ k) (.slice A6 1 c6) [x] → wr.grownBy w1 (Value.slice AD 0 cD).ownBlock → Below base w0 w1 → wpList Try.prog ops Q rest (a.put o.dst (.slice A6 1 c6)) w1) :
    wpList Try.prog ops Q (o :: rest) a (wr.alloc (.cells #[.string x] 9)) := by
  refine Kd.R_append Kd.string (w0 := w0) (W := wr) base hgd (.tmp 62) (.tmp 63) 30 9 (.string ⟨#[]⟩) 16 ho Try.underlying30 info9 rfl (by decide) (by omega) (.slice AD 0 cD) [] x [.string x] (fun k => oki k ∨ wr.heap.size ≤ k) (fun _ => False) hs hx
    rfl (fun _ hk => hk.elim) (fun k hk => .inr hk) (Kd.R_mono hR (fun k hk => .inl hk)) hB hb (by decide) ?_
  intro v1 w1 h1 hbl hg hat
  obtain ⟨A6, c6, rfl⟩ := Kd.R_slice h1
  exact h A6 c6 w1 h1 hg hbl
open Go.Proofs.Ytahdgaaedilcmaa.Pl
attribute [local go_sem high] eqA26

set_option maxHeartbeats 4000000 in
set_option maxRecDepth 1000000 in
theorem law3_walk (a0 : ByteArray) (w : World) :
    Calls Try.prog 3 #[.string a0] w fun e w' => e = .returned (.bool true) ∧ Below w.heap.size w w' := by
  obtain ⟨kw, hkw⟩ := ev_some works_ev
  obtain ⟨k1, hk1⟩ := ev_some (parse_ev a0)
  obtain ⟨k2, hk2⟩ := ev_some (rparse_ev a0)
  by_cases hl : (262144 : Int) < (a0.size : Int)
  · have hp : parse (L a0) = ([], 3, 32768) := by unfold parse; rw [if_pos (by rw [← size_L]; omega)]
    rw [hp] at hk1
    have HW := Aside0.mk hkw
    have HA := Aside0.mk hk1
    clear hkw hk1 hk2 hp
    have hlb : decide ((262144 : Int) < (a0.size : Int)) = true := decide_eq_true hl
    go_enter Try.func3, Try.ntmps3
    go_wp2_with fail
    refine (brickyardlaw16_works.calls kw true _ HW.out).mono ?_
    rintro e w1 ⟨rfl, hb1⟩
    go_wp2_with fail
    refine (depfile_Parse.calls k1 a0 [] 3 32768 _ HA.out).mono ?_
    rintro e w2 ⟨vA, rfl, hSA, hbA⟩
    obtain ⟨AA, cA, rfl⟩ := Kd.R_slice (Kd.S_R hSA)
    go_wp2
    go_ret
    exact ⟨rfl, (below_then hb1 hb1.size hbA).alloc (Nat.le_trans hb1.size hbA.size) _⟩
  · have hp : ∀ r ∈ (parse (L a0)).1, r.f1.length < 1000000000 := by
      unfold parse
      split
      · intro r hr; cases hr
      · have hd := go_deps 300000 _ (L a0) (Nat.le_refl _) 0 [] z32 ⟨#[]⟩ false false false (by simp) (by simp [z32]; have := size_L a0; omega)
        intro r hr
        have := hd r hr
        omega
    have hq : (parse (L a0)).1.length < 1000000 := by
      unfold parse
      split
      · simp
      · have ht := go_told _ (L a0) (Nat.le_refl _) 0 [] z32 ⟨#[]⟩ false false false 0 300000 (Int.le_refl _) (by have := size_L a0; simp; omega)
        rcases ht with ⟨_, _, h3⟩ | ⟨_, _, _, h4⟩
        · omega
        · rw [h4]; simp
    obtain ⟨⟨T, e1, e2⟩, hT⟩ : ∃ T, parse (L a0) = T := ⟨_, rfl⟩
    rw [hT] at hk1 hk2 hp hq
    have hsame : ∀ j : Nat, ∃ k, brickyardref16_Same.f k (T.drop j) (T.drop j) = some true := fun j =>
      ev_some (same_refl (T.drop j) (by rw [List.length_drop]; dsimp only at hq; omega) (fun r hr => hp r (List.mem_of_mem_drop hr)))
    obtain ⟨k0, hk0⟩ := hsame 0
    rw [List.drop_zero] at hk0
    have HS := Aside0.mk hsame
    have HW := Aside0.mk hkw
    have HA := Aside0.mk hk1
    have HB := Aside0.mk hk2
    have H0 := Aside0.mk hk0
    have HQ := Aside0.mk hq
    clear hkw hk1 hk2 hT hp hq hsame hk0
    have hlb : decide ((262144 : Int) < (a0.size : Int)) = false := decide_eq_false hl
    have heq : (e1 == e1 && e2 == e2) = true := by simp
    go_enter Try.func3, Try.ntmps3
    go_wp2_with fail
    refine (brickyardlaw16_works.calls kw true _ HW.out).mono ?_
    rintro e w1 ⟨rfl, hb1⟩
    go_wp2_with fail
    refine (depfile_Parse.calls k1 a0 T e1 e2 _ HA.out).mono ?_
    rintro e w2 ⟨vA, rfl, hSA, hbA⟩
    obtain ⟨AA, cA, rfl⟩ := Kd.R_slice (Kd.S_R hSA)
    go_wp2_with fail
    refine (ref16_Parse.calls k2 a0 T e1 e2 _ HB.out).mono ?_
    rintro e w3 ⟨vB, rfl, hSB, hbB⟩
    obtain ⟨AB, cB, rfl⟩ := Kd.R_slice (Kd.S_R hSB)
    have hM0 := LMem.start hb1 hSA hbA hSB hbB
    have hP0 : (w3.alloc (.cells #[.int .i64 e1, .int .i64 e2] 26)).heap[w2.heap.size]? = some (.cells #[.int .i64 e1, .int .i64 e2] 26 (0, 0)) := blk_alloc (blk_below (blk_new w2 _) hbB) _
    have p0 : (w3.alloc (.cells #[.int .i64 e1, .int .i64 e2] 26)).cell? ⟨w2.heap.size, 0, none⟩ = some (.int .i64 e1) := blk_cell hP0 0
    have p1 : (w3.alloc (.cells #[.int .i64 e1, .int .i64 e2] 26)).cell? ⟨w2.heap.size, 1, none⟩ = some (.int .i64 e2) := blk_cell hP0 1
    have q0 : (w3.alloc (.cells #[.int .i64 e1, .int .i64 e2] 26)).cell? ⟨w3.heap.size, 0, none⟩ = some (.int .i64 e1) := blk_cell (blk_new w3 _) 0
    have q1 : (w3.alloc (.cells #[.int .i64 e1, .int .i64 e2] 26)).cell? ⟨w3.heap.size, 1, none⟩ = some (.int .i64 e2) := blk_cell (blk_new w3 _) 1
    clear hSA hSB hbA hbB hb1 hP0
    go_wp2_with fail
    have hrA := Kd.R_reads' (Kd.S_R hM0.2.2.2.2.2.1)
    have hrB := Kd.R_reads' (Kd.S_R hM0.2.2.2.2.2.2)
    refine (brickyardref16_Same.calls k0 AA cA T AB cB T true _ hrA.2.2 hrA.2.1 hrB.2.2 hrB.2.1 H0.out).mono ?_
    rintro e w4 ⟨rfl, ⟨nd, rfl⟩⟩
    have hM1 := hM0.below_ (pw_below_drewN (Below.refl _ _) nd)
    clear hM0 hrA hrB
    go_wp2_with fail
    obtain ⟨W4, hW4⟩ : ∃ W4, W4 = (w3.alloc (.cells #[.int .i64 e1, .int .i64 e2] 26)).drewN nd := ⟨_, rfl⟩
    rw [← hW4] at hM1
    rw [← hW4]
    clear p0 p1 q0 q1 hW4
    go_loopg [9] (T.length + 1) (fun n iv wr => ∃ (i : Nat) (a : List S32), iv = .int .i64 (i : Int) ∧ Aside0 (i + n = T.length + 1) ∧ Aside0 (a.length = T.length ∧ a.drop i = T.drop i) ∧ Aside0 (LMem w w2.heap.size w3.heap.size e1 e2 (.slice AA T.length cA) a (.slice AB T.length cB) T wr))
    case atStart => exact ⟨0, T, rfl, ⟨by omega⟩, ⟨rfl, rfl⟩, ⟨hM1⟩⟩
    case round =>
      obtain ⟨i, a, rfl, ⟨hn⟩, ⟨hal, had⟩, ⟨hM⟩⟩ := hrel
      clear hM1
      by_cases c1 : i < T.length
      case neg =>
        have c1b : decide ((i : Int) < (T.length : Int)) = false := decide_eq_false (by omega)
        have c1c : (i < T.length) = False := eq_false c1
        go_wp2_with fail
        refine (depfile_Parse.calls k1 a0 T e1 e2 _ HA.out).mono ?_
        rintro e w5 ⟨vC, rfl, hSC, hbC⟩
        obtain ⟨AC, cC, rfl⟩ := Kd.R_slice (Kd.S_R hSC)
        have hM5 := hM.below_ hbC
        have hM6 := hM5.below_ ((Below.refl _ _).alloc (Nat.le_refl _) (.cells #[.int .i64 e1, .int .i64 e2] 26))
        have hSC6 := Kd.S_alloc hSC (.cells #[.int .i64 e1, .int .i64 e2] 26)
        have r0 : (w5.alloc (.cells #[.int .i64 e1, .int .i64 e2] 26)).cell? ⟨w3.heap.size, 0, none⟩ = some (.int .i64 e1) := blk_cell hM6.2.2.2.2.1 0
        have r1 : (w5.alloc (.cells #[.int .i64 e1, .int .i64 e2] 26)).cell? ⟨w3.heap.size, 1, none⟩ = some (.int .i64 e2) := blk_cell hM6.2.2.2.2.1 1
        have t0 : (w5.alloc (.cells #[.int .i64 e1, .int .i64 e2] 26)).cell? ⟨w5.heap.size, 0, none⟩ = some (.int .i64 e1) := blk_cell (blk_new w5 _) 0
        have t1 : (w5.alloc (.cells #[.int .i64 e1, .int .i64 e2] 26)).cell? ⟨w5.heap.size, 1, none⟩ = some (.int .i64 e2) := blk_cell (blk_new w5 _) 1
        go_wp2_with fail
        have hrC := Kd.R_reads' (Kd.S_R hSC6)
        have hrB := Kd.R_reads' (Kd.S_R hM6.2.2.2.2.2.2)
        refine (brickyardref16_Same.calls k0 AC cC T AB cB T true _ hrC.2.2 hrC.2.1 hrB.2.2 hrB.2.1 H0.out).mono ?_
        rintro e w7 ⟨rfl, ⟨nd2, rfl⟩⟩
        have hbF := pw_below_drewN hM6.1 nd2
        go_wp2_with fail
        go_ret
        exact ⟨rfl, hbF⟩
      have c1b : decide ((i : Int) < (T.length : Int)) = true := decide_eq_true (by omega)
      have c1c : (i < T.length) = True := eq_true c1
      obtain ⟨g, rfl⟩ : ∃ g, AA = some ⟨g, 0, none⟩ := by
        have hrA := Kd.R_reads' (Kd.S_R hM.2.2.2.2.2.1)
        obtain ⟨ad, _, _, rfl, _⟩ := at_T32 hrA.2.2 0 (Int.le_refl _) (by omega)
        obtain ⟨g, rfl⟩ := Kd.R_head (Kd.S_R hM.2.2.2.2.2.1)
        exact ⟨g, rfl⟩
      obtain ⟨AD, nD, cD, hx, hf, hle, hne, oki, hR0, hoki, hfin⟩ := hM.elem i c1
      have hbW : w.heap.size ≤ wr.heap.size := hM.1.size
      have hBW := hM.1
      have hneg : some g ≠ (Value.slice AD 0 cD).ownBlock := fun he => hne g he.symm rfl
      obtain ⟨A', hsA, hcA⟩ := rules_cut (some ⟨g, 0, none⟩) T.length cA i (by omega)
      obtain ⟨B', hsB, hcB⟩ := rules_cut AB T.length cB i (by omega)
      have HcA := Aside0.mk hcA
      have HcB := Aside0.mk hcB
      have Hfin := Aside0.mk hfin
      have Hhad := Aside0.mk had
      clear hcA hcB hfin had
      go_wp2_with (first | (at_builtin; refine gone_event (w0 := w) (wr := wr) rfl rfl rfl rfl hR0 hBW hbW ?_; intro A6 c6 w1 hR1 hg1 hb1; have hx1 : w1.cell? ⟨g, i * 2 + 1, none⟩ = some (.slice AD nD cD) := (hg1.cell_far _ (World.block_lt_of_cell? _ _ hx) hneg).trans hx; have hf1 : w1.frozen? ⟨g, i * 2 + 1, none⟩ = false := (hg1.frozen_far _ (World.block_lt_of_cell? _ _ hx) hneg).trans hf) | go_in)
      have hM2 := Hfin.out w1 _ _ hR1 hg1 hb1
      obtain ⟨ks, hks⟩ := HS.out (i + 1)
      obtain ⟨X, hX⟩ : ∃ X, X = a.set i ⟨(a.getD i z32).f0, [(⟨#[103, 111, 110, 101]⟩ : ByteArray)]⟩ := ⟨_, rfl⟩
      rw [← hX] at hM2
      have hXl : X.length = T.length := by rw [hX, List.length_set]; exact hal
      have hXd : X.drop (i + 1) = T.drop (i + 1) := by
        rw [hX, List.drop_set_of_lt (by omega)]
        have h := congrArg (List.drop 1) Hhad.out
        rwa [List.drop_drop, List.drop_drop] at h
      clear hX
      obtain ⟨W6, hW6⟩ : ∃ W6, W6 = w1.setCell ⟨g, i * 2 + 1, none⟩ (.slice A6 1 c6) := ⟨_, rfl⟩
      rw [← hW6]
      rw [show w1.setCell ⟨g, i * 2 + 1, none⟩ (.slice A6 1 c6) = W6 from hW6.symm] at hM2
      have hrA := Kd.R_reads' (Kd.S_R hM2.2.2.2.2.2.1)
      have hrB := Kd.R_reads' (Kd.S_R hM2.2.2.2.2.2.2)
      have hle6 := hrA.2.1
      have hCA := HcA.out W6 X hXl (by omega) (by have h := hrA.2.2; rwa [hXl] at h)
      rw [hXd] at hCA
      have hCB := HcB.out W6 T rfl hrB.2.1 hrB.2.2
      have hcall : ∀ nd, Calls Try.prog 14 #[.slice A' (T.length - (i + 1)) (cA - (i + 1)), .slice B' (T.length - (i + 1)) (cB - (i + 1))] (W6.drewN nd) fun e w' => e = .returned (.bool true) ∧ Drawn0 (W6.drewN nd) w' := by
        intro nd
        have h := brickyardref16_Same.calls ks A' (cA - (i + 1)) (T.drop (i + 1)) B' (cB - (i + 1)) (T.drop (i + 1)) true (W6.drewN nd) (Kd.C_drewN hCA nd) (by have := hrA.2.1; rw [List.length_drop]; omega) (Kd.C_drewN hCB nd) (by have := hrB.2.1; rw [List.length_drop]; omega) hks
        rwa [List.length_drop] at h
      clear hrA hrB hCA hCB hks hx hf hx1 hf1 hR1 hg1 hb1 hW6 hR0 hoki hM hBW
      have HM2 := Aside0.mk hM2
      clear hM2
      have HQ2 := HQ.out
      go_wp2_with fail
      go_quiet (first | (go_at_call 14; refine (hcall _).mono ?_; rintro e w9 ⟨rfl, ⟨nd, rfl⟩⟩; (try first | exact ⟨rfl, _, World.drewN_drewN _ _ _⟩ | exact ⟨rfl, _, Eq.trans (World.drewN_drewN _ _ _) (congrArg (World.drewN _) (Nat.add_assoc _ _ _))⟩)))
      go_wp2
      go_roundg (gk - 1)
      case measure => omega
      case rel => exact ⟨i + 1, X, by first | rfl | (simp; done), ⟨by omega⟩, ⟨hXl, hXd⟩, ⟨HM2.out.below_ (pw_below_drewN (Below.refl _ _) _)⟩⟩
end Go.Proofs.Ytahdgaaedilcmaa.P
