/- DepfileBack's own function: the walk. -/
import Derived.Test.YtahdgaaedilcmaaGLaw9
namespace Go.Proofs.Ytahdgaaedilcmaa.P
open Go.RowKit Go.Maps Go.Proofs.YtahdgaaedilcmaaW.PrintWords Go.Proofs.YtahdgaaedilcmaaW.PrintLast Go.Proofs.YtahdgaaedilcmaaW.PrintMore Go.Proofs.Ytahdgaaedilcmaa.Pl
set_option linter.unusedVariables false
set_option linter.unusedSimpArgs false
/-- Words no longer than what is left of a bound. -/
structure SzSt (M : Nat) (out : List S32) (rule : S32) (word : ByteArray) (n : Nat) : Prop where
  pOut : ∀ r ∈ out, r.f0.size ≤ M ∧ ∀ d ∈ r.f1, d.size ≤ M
  pTg : rule.f0.size ≤ M
  pDeps : ∀ d ∈ rule.f1, d.size ≤ M
  pWord : word.size + n ≤ M
theorem SzSt.close {M n m : Nat} {out : List S32} {rule : S32} {word : ByteArray} {inn col : Bool} (h : SzSt M out rule word n) (hm : m ≤ n) : SzSt M out (closeRule rule word inn col) ⟨#[]⟩ m := by
  have hw := h.pWord
  refine ⟨h.pOut, ?_, fun d hd => ?_, by show 0 + m ≤ M; omega⟩
  · unfold closeRule
    cases inn <;> cases col <;> simp
    · exact h.pTg
    · exact h.pTg
    · omega
    · exact h.pTg
  · unfold closeRule at hd
    cases inn <;> cases col <;> simp at hd
    · exact h.pDeps d hd
    · exact h.pDeps d hd
    · exact h.pDeps d hd
    · rcases hd with hd | rfl
      · exact h.pDeps d hd
      · omega
theorem SzSt.byte {M n m : Nat} {out : List S32} {rule : S32} {word : ByteArray} (h : SzSt M out rule word n) (c : UInt8) (hm : m + 1 ≤ n) : SzSt M out rule (word ++ B [c]) m :=
  ⟨h.pOut, h.pTg, h.pDeps, by rw [ByteArray.size_append, size_B]; have := h.pWord; simp only [List.length_cons, List.length_nil]; omega⟩
theorem SzSt.push {M n : Nat} {out : List S32} {rule : S32} {word : ByteArray} {inn col : Bool} (h : SzSt M out rule word n) : ∀ r ∈ out ++ [closeRule rule word inn col], r.f0.size ≤ M ∧ ∀ d ∈ r.f1, d.size ≤ M := by
  intro r hr
  rcases List.mem_append.1 hr with h1 | h1
  · exact h.pOut r h1
  · rw [List.mem_singleton.1 h1]
    have := h.close (inn := inn) (col := col) (Nat.le_refl n)
    exact ⟨this.pTg, this.pDeps⟩
theorem SzSt.start {M m : Nat} {out : List S32} (h : ∀ r ∈ out, r.f0.size ≤ M ∧ ∀ d ∈ r.f1, d.size ≤ M) (hm : m ≤ M) : SzSt M out z32 ⟨#[]⟩ m := ⟨h, Nat.zero_le _, (fun d hd => by simp [z32] at hd), by show 0 + m ≤ M; omega⟩
theorem go_size (M : Nat) : ∀ (n : Nat) (l : List UInt8), l.length ≤ n → ∀ (i : Int) (out : List S32) (rule : S32) (word : ByteArray) (inn tgt col : Bool), SzSt M out rule word l.length → ∀ r ∈ (go l i out rule word inn tgt col).1, r.f0.size ≤ M ∧ ∀ d ∈ r.f1, d.size ≤ M := by
  intro n
  have hnil : ∀ (i : Int) (out : List S32) (rule : S32) (word : ByteArray) (inn tgt col : Bool), SzSt M out rule word 0 → ∀ r ∈ (go [] i out rule word inn tgt col).1, r.f0.size ≤ M ∧ ∀ d ∈ r.f1, d.size ≤ M := by
    intro i out rule word inn tgt col h
    simp only [go]
    split
    · split
      · intro r hr; cases hr
      · exact h.push
    · exact h.pOut
  have hbad : ∀ i : Int, ∀ r ∈ (([] : List S32), (6 : Int), i).1, r.f0.size ≤ M ∧ ∀ d ∈ r.f1, d.size ≤ M := fun i r hr => by cases hr
  induction n with
  | zero =>
    intro l hl i out rule word inn tgt col h
    obtain rfl := List.eq_nil_of_length_eq_zero (Nat.le_zero.1 hl)
    exact hnil i out rule word inn tgt col h
  | succ n ih =>
    intro l hl i out rule word inn tgt col h
    cases l with
    | nil => exact hnil i out rule word inn tgt col h
    | cons c t =>
      have ht : t.length ≤ n := by simp at hl; omega
      have hm : t.length + 1 ≤ (c :: t).length := by simp
      have hM : t.length ≤ M := by have := h.pWord; simp at this; omega
      rw [go.eq_def]
      dsimp only
      by_cases c10 : c = 10
      · rw [if_pos c10]
        by_cases ct : closeTgt inn tgt col = true
        · rw [if_pos ct]
          by_cases cc : col = false
          · rw [if_pos cc]; exact hbad i
          · rw [if_neg cc]; exact ih t ht _ _ _ _ _ _ _ (.start h.push hM)
        · rw [if_neg ct]; exact ih t ht _ _ _ _ _ _ _ (.start h.pOut hM)
      rw [if_neg c10]
      by_cases cl : c.toNat < 32
      · rw [if_pos cl]; exact hbad i
      rw [if_neg cl]
      by_cases c32 : c = 32
      · rw [if_pos c32]; exact ih t ht _ _ _ _ _ _ _ (h.close (by omega))
      rw [if_neg c32]
      by_cases c58 : c = 58
      · rw [if_pos c58]
        by_cases cw : closeTgt inn tgt col = false ∨ col = true
        · rw [if_pos cw]; exact hbad i
        · rw [if_neg cw]; exact ih t ht _ _ _ _ _ _ _ (h.close (by omega))
      rw [if_neg c58]
      by_cases c92 : c = 92
      · rw [if_pos c92]
        cases t with
        | nil => exact hbad i
        | cons d t' =>
          have ht' : t'.length ≤ n := by simp at ht; omega
          have hm' : t'.length + 1 ≤ (c :: d :: t').length := by simp
          dsimp only
          by_cases de : escB d = false
          · rw [if_pos de]; exact hbad i
          rw [if_neg de]
          by_cases d10 : d = 10
          · rw [if_pos d10]; exact ih t' ht' _ _ _ _ _ _ _ (h.close (by omega))
          rw [if_neg d10]
          by_cases cw : inn = false ∧ tgt = true ∧ col = false
          · rw [if_pos cw]; exact hbad i
          · rw [if_neg cw]; exact ih t' ht' _ _ _ _ _ _ _ (h.byte d hm')
      rw [if_neg c92]
      by_cases cw : inn = false ∧ tgt = true ∧ col = false
      · rw [if_pos cw]; exact hbad i
      · rw [if_neg cw]; exact ih t ht _ _ _ _ _ _ _ (h.byte c hm)
theorem parse_tiny (l : List UInt8) : Tiny (parse l).1 := by
  unfold parse
  split
  · exact ⟨Nat.zero_le _, fun r hr => by cases hr⟩
  · rename_i hl
    have h1 := go_told l.length l (Nat.le_refl _) 0 [] z32 ⟨#[]⟩ false false false 0 32769 (Int.le_refl _) (by simp; omega)
    have h2 := go_deps 32769 l.length l (Nat.le_refl _) 0 [] z32 ⟨#[]⟩ false false false (fun r hr => by cases hr) (by simp [z32]; omega)
    have h3 := go_size 32768 l.length l (Nat.le_refl _) 0 [] z32 ⟨#[]⟩ false false false (.start (fun r hr => by cases hr) (by omega))
    refine ⟨?_, fun r hr => ⟨by have := (h3 r hr).1; omega, by have := h2 r hr; omega, fun d hd => by have := (h3 r hr).2 d hd; omega⟩⟩
    rcases h1 with ⟨_, _, h⟩ | ⟨_, _, _, h⟩
    · omega
    · rw [h]; exact Nat.zero_le _
theorem parse_spot (l : List UInt8) : ((parse l).2.1 = 0 ∧ (parse l).2.2 = 0) ∨ ((parse l).1 = [] ∧ (parse l).2.1 ≠ 0 ∧ 0 ≤ (parse l).2.2 ∧ (parse l).2.2 ≤ l.length) := by
  unfold parse
  split
  · exact .inr ⟨rfl, by simp, by simp, by show (32768 : Int) ≤ _; omega⟩
  · have h1 := go_told l.length l (Nat.le_refl _) 0 [] z32 ⟨#[]⟩ false false false 0 (l.length + 1) (Int.le_refl _) (by simp)
    rcases h1 with ⟨h, h', _⟩ | ⟨h, h', h'', h3⟩
    · exact .inl ⟨h, h'⟩
    · exact .inr ⟨h3, by rw [h]; decide, h', by omega⟩
theorem parse_calls (a : ByteArray) (w : World) : Calls Try.prog 12 #[.string a] w fun e w' => ∃ v0_ : Value, e = .returned (.tuple #[v0_, .agg #[.int .i64 (parse (L a)).2.1, .int .i64 (parse (L a)).2.2]]) ∧ Kd.S k32 32 w' w.heap.size (fun _ => True) v0_ (parse (L a)).1 ∧ Below w.heap.size w w' := by
  obtain ⟨k, hk⟩ := ev_some (parse_ev a)
  exact depfile_Parse.calls k a _ _ _ w hk
theorem same_calls (l : List S32) (hT : Tiny l) (A0 A1 : Option Addr) (c0 c1 : Nat) (w : World) (hr0 : Kd.C k32 w A0 l.length l) (hc0 : l.length ≤ c0) (hr1 : Kd.C k32 w A1 l.length l) (hc1 : l.length ≤ c1) :
    Calls Try.prog 14 #[.slice A0 l.length c0, .slice A1 l.length c1] w fun e w' => e = .returned (.bool true) ∧ Drawn0 w w' := by
  obtain ⟨k, hk⟩ := ev_some (same_refl l (by have := hT.1; omega) (fun r hr => by have := (hT.2 r hr).2.1; omega))
  exact brickyardref16_Same.calls k A0 c0 l A1 c1 l true w hr0 hc0 hr1 hc1 hk
theorem idx0 (W : World) : (Instr.index 53 (.agg #[.bool false, .bool true]) (.int .i64 0)).run Try.prog W = .ok (.bool false) W := by kernel_rfl
theorem idx1 (W : World) : (Instr.index 53 (.agg #[.bool false, .bool true]) (.int .i64 1)).run Try.prog W = .ok (.bool true) W := by kernel_rfl
attribute [local go_sem high] eqA26
set_option maxHeartbeats 8000000 in
set_option maxRecDepth 1000000 in
theorem law10_walk (A0 : Option Addr) (c0 : Nat) (l0 : List S32) (width : Int) (a0 : ByteArray) (w : World) (hr0 : Kd.C k32 w A0 l0.length l0) (hc0 : l0.length ≤ c0) (hRB : RB l0) :
    Calls Try.prog 10 #[.slice A0 l0.length c0, .int .i64 width, .string a0] w fun e w' => e = .returned (.bool true) ∧ Below w.heap.size w w' := by
  obtain ⟨kw, hkw⟩ := ev_some works_ev
  obtain ⟨b, hbe, hbt⟩ := great_ev [l0] (by simp) (fun l hl => by rw [List.mem_singleton] at hl; rw [hl]; exact hRB)
  obtain ⟨kg, hkg⟩ := ev_some hbe
  have HW := Aside0.mk hkw
  have HG := Aside0.mk hkg
  have HC := Aside0.mk hr0
  clear hkw hkg hr0 hbe
  go_enter Try.func10, Try.ntmps10
  go_wp2_with fail
  refine (brickyardlaw16_works.calls kw true _ HW.out).mono ?_
  rintro e w1 ⟨rfl, hb1⟩
  have hs1 := hb1.size
  go_wp2_with fail
  have hCg := lists_one (e := 23) hc0 (Kd.C_below HC.out hb1)
  have hbg : Below w.heap.size w (w1.alloc (.cells #[.slice A0 l0.length c0] 23)) := hb1.alloc hs1 _
  refine (brickyardlaw16_great.calls kg (some ⟨w1.heap.size, 0, none⟩) 1 [l0] b _ hCg (Nat.le_refl _) HG.out).mono ?_
  rintro e w2 ⟨rfl, ⟨nd, rfl⟩⟩
  have hb2 := pw_below_drewN hbg nd
  obtain ⟨W2, hW2⟩ : ∃ W2, W2 = (w1.alloc (.cells #[.slice A0 l0.length c0] 23)).drewN nd := ⟨_, rfl⟩
  rw [← hW2] at hb2
  cases b with
  | true =>
    go_wp2
    rw [← hW2]
    go_ret
    exact ⟨rfl, hb2⟩
  | false =>
    by_cases hl : (262144 : Int) < (a0.size : Int)
    · have hlb : decide ((262144 : Int) < (a0.size : Int)) = true := decide_eq_true hl
      go_wp2
      rw [← hW2]
      go_ret
      exact ⟨rfl, hb2⟩
    have hlb : decide ((262144 : Int) < (a0.size : Int)) = false := decide_eq_false hl
    have htot := hbt rfl
    have htot1 : tot l0 < 32768 := by have : totL [l0] = tot l0 + 0 := rfl; omega
    have HT := Aside0.mk (tiny_of htot1)
    have HL := Aside0.mk hl
    clear hbt htot htot1 hCg hbg hl
    go_wp2_with fail
    rw [← hW2]
    clear hW2
    go_loopw [30] (fun iv wr => ∃ i : Int, iv = .int .i64 i ∧ Aside0 (0 ≤ i ∧ i ≤ 2) ∧ Aside0 (Below w.heap.size w wr)) (fun iv _ => match iv with | .int _ i => (2 - i).toNat | _ => 0)
    case atStart => exact ⟨0, rfl, ⟨by decide, by decide⟩, ⟨hb2⟩⟩
    case round =>
      obtain ⟨i, rfl, HI, HB⟩ := hrel
      have hx0 := idx0
      have hx1 := idx1
      clear hb2 hb1 hs1 hlb
      have hi := HI.out
      rcases (show i = 0 ∨ i = 1 ∨ i = 2 by omega) with rfl | rfl | rfl
      · clear hi
        go_wp2_with fail
        refine (print_calls A0 c0 l0 wr (Kd.C_below HC.out HB.out) hc0 HT.out).mono ?_
        rintro e w3 ⟨rfl, hbA⟩
        have hb4 := below_then HB.out HB.out.size hbA
        have hor := told_or false 0 l0
        have hrd := told_read (short := false) (width := 0) (l := l0)
        obtain ⟨X, hX⟩ : ∃ X, toldT false 0 l0 = X := ⟨_, rfl⟩
        rw [hX] at hor hrd ⊢
        obtain ⟨x1, x2⟩ := X
        clear hX hbA
        rcases hor with hz | hz
        · have hz : x2 = 0 := hz
          subst hz
          have hrd := hrd rfl
          have hrd : parse (L x1) = if 32768 < (L x1).length then ([], 3, 32768) else (l0, 0, 0) := hrd
          have hsz := size_L x1
          have hpc := parse_calls x1
          rw [hrd] at hpc
          have HP := Aside0.mk hpc
          clear hpc hrd
          by_cases hlong : 32768 < (L x1).length
          · have cl : decide ((32768 : Int) < (x1.size : Int)) = true := decide_eq_true (by omega)
            have HP2 := Aside0.mk (fun W => (by have := HP.out W; rw [if_pos hlong] at this; exact this : Calls Try.prog 12 #[.string x1] W fun e w' => ∃ v0_ : Value, e = .returned (.tuple #[v0_, .agg #[.int .i64 3, .int .i64 32768]]) ∧ Kd.S k32 32 w' W.heap.size (fun _ => True) v0_ [] ∧ Below W.heap.size W w'))
            clear HP hsz hlong
            go_wp2_with fail
            refine (HP2.out _).mono ?_
            rintro e w5 ⟨v5, rfl, hS5, hb5⟩
            obtain ⟨A5, c5, rfl⟩ := Kd.R_slice (Kd.S_R hS5)
            have hb6 := (below_then hb4 hb4.size hb5).alloc (below_then hb4 hb4.size hb5).size (.cells #[.int .i64 3, .int .i64 32768] 26)
            have p0 : (w5.alloc (.cells #[.int .i64 3, .int .i64 32768] 26)).cell? ⟨w5.heap.size, 0, none⟩ = some (.int .i64 3) := blk_cell (blk_new w5 _) 0
            clear hS5 hb5 HP2
            go_wp2_with fail
            go_roundw
            case rel => exact ⟨1, by first | rfl | simp, ⟨by decide, by decide⟩, ⟨hb6⟩⟩
            case measure => decide
          · have cl : decide ((32768 : Int) < (x1.size : Int)) = false := decide_eq_false (by omega)
            have HP2 := Aside0.mk (fun W => (by have := HP.out W; rw [if_neg hlong] at this; exact this : Calls Try.prog 12 #[.string x1] W fun e w' => ∃ v0_ : Value, e = .returned (.tuple #[v0_, .agg #[.int .i64 0, .int .i64 0]]) ∧ Kd.S k32 32 w' W.heap.size (fun _ => True) v0_ l0 ∧ Below W.heap.size W w'))
            clear HP hsz hlong
            go_wp2_with fail
            refine (HP2.out _).mono ?_
            rintro e w5 ⟨v5, rfl, hS5, hb5⟩
            obtain ⟨A5, c5, rfl⟩ := Kd.R_slice (Kd.S_R hS5)
            have hb6 := (below_then hb4 hb4.size hb5).alloc (below_then hb4 hb4.size hb5).size (.cells #[.int .i64 0, .int .i64 0] 26)
            have p0 : (w5.alloc (.cells #[.int .i64 0, .int .i64 0] 26)).cell? ⟨w5.heap.size, 0, none⟩ = some (.int .i64 0) := blk_cell (blk_new w5 _) 0
            have p1 : (w5.alloc (.cells #[.int .i64 0, .int .i64 0] 26)).cell? ⟨w5.heap.size, 1, none⟩ = some (.int .i64 0) := blk_cell (blk_new w5 _) 1
            have hS6 := Kd.R_reads' (Kd.S_R (Kd.S_alloc hS5 (.cells #[.int .i64 0, .int .i64 0] 26)))
            have hsc := same_calls l0 HT.out A0 A5 c0 c5 _ (Kd.C_below HC.out hb6) hc0 hS6.2.2 hS6.2.1
            have heq : ((0 : Int) == 0 && (0 : Int) == 0) = true := by decide
            clear hS5 hb5 HP2 hS6
            go_wp2_with fail
            refine hsc.mono ?_
            rintro e w7 ⟨rfl, ⟨nd7, rfl⟩⟩
            have hb7 := pw_below_drewN hb6 nd7
            clear hsc p0 p1
            go_wp2_with fail
            go_roundw
            case rel => exact ⟨1, by first | rfl | simp, ⟨by decide, by decide⟩, ⟨hb7⟩⟩
            case measure => decide
        · injection hz with hz1 hz2
          subst hz1 hz2
          have e1 : ((B []).toList == ([] : List UInt8)) = true := by rw [toList_L, L_B]; rfl
          have e2 : (B []).toList.isEmpty = true := by rw [toList_L, L_B]; rfl
          clear hrd
          go_wp2_with fail
          go_ret
          exact ⟨rfl, hb4⟩
      · clear hi
        go_wp2_with fail
        refine (print_calls A0 c0 l0 wr (Kd.C_below HC.out HB.out) hc0 HT.out).mono ?_
        rintro e w3 ⟨rfl, hbA⟩
        have hb3 := below_then HB.out HB.out.size hbA
        go_wp2_with fail
        refine (fold_calls width A0 c0 l0 w3 (Kd.C_below HC.out hb3) hc0 HT.out).mono ?_
        rintro e w4 ⟨rfl, hbC⟩
        have hb4 := below_then hb3 hb3.size hbC
        have hor := told_or true width l0
        have hrd := told_read (short := true) (width := width) (l := l0)
        obtain ⟨X, hX⟩ : ∃ X, toldT true width l0 = X := ⟨_, rfl⟩
        rw [hX] at hor hrd ⊢
        obtain ⟨x1, x2⟩ := X
        clear hX hbA hbC hb3
        rcases hor with hz | hz
        · have hz : x2 = 0 := hz
          subst hz
          have hrd := hrd rfl
          have hrd : parse (L x1) = if 32768 < (L x1).length then ([], 3, 32768) else (l0, 0, 0) := hrd
          have hsz := size_L x1
          have hpc := parse_calls x1
          rw [hrd] at hpc
          have HP := Aside0.mk hpc
          clear hpc hrd
          by_cases hlong : 32768 < (L x1).length
          · have cl : decide ((32768 : Int) < (x1.size : Int)) = true := decide_eq_true (by omega)
            have HP2 := Aside0.mk (fun W => (by have := HP.out W; rw [if_pos hlong] at this; exact this : Calls Try.prog 12 #[.string x1] W fun e w' => ∃ v0_ : Value, e = .returned (.tuple #[v0_, .agg #[.int .i64 3, .int .i64 32768]]) ∧ Kd.S k32 32 w' W.heap.size (fun _ => True) v0_ [] ∧ Below W.heap.size W w'))
            clear HP hsz hlong
            go_wp2_with fail
            refine (HP2.out _).mono ?_
            rintro e w5 ⟨v5, rfl, hS5, hb5⟩
            obtain ⟨A5, c5, rfl⟩ := Kd.R_slice (Kd.S_R hS5)
            have hb6 := (below_then hb4 hb4.size hb5).alloc (below_then hb4 hb4.size hb5).size (.cells #[.int .i64 3, .int .i64 32768] 26)
            have p0 : (w5.alloc (.cells #[.int .i64 3, .int .i64 32768] 26)).cell? ⟨w5.heap.size, 0, none⟩ = some (.int .i64 3) := blk_cell (blk_new w5 _) 0
            clear hS5 hb5 HP2
            go_wp2_with fail
            go_roundw
            case rel => exact ⟨2, by first | rfl | simp, ⟨by decide, by decide⟩, ⟨hb6⟩⟩
            case measure => decide
          · have cl : decide ((32768 : Int) < (x1.size : Int)) = false := decide_eq_false (by omega)
            have HP2 := Aside0.mk (fun W => (by have := HP.out W; rw [if_neg hlong] at this; exact this : Calls Try.prog 12 #[.string x1] W fun e w' => ∃ v0_ : Value, e = .returned (.tuple #[v0_, .agg #[.int .i64 0, .int .i64 0]]) ∧ Kd.S k32 32 w' W.heap.size (fun _ => True) v0_ l0 ∧ Below W.heap.size W w'))
            clear HP hsz hlong
            go_wp2_with fail
            refine (HP2.out _).mono ?_
            rintro e w5 ⟨v5, rfl, hS5, hb5⟩
            obtain ⟨A5, c5, rfl⟩ := Kd.R_slice (Kd.S_R hS5)
            have hb6 := (below_then hb4 hb4.size hb5).alloc (below_then hb4 hb4.size hb5).size (.cells #[.int .i64 0, .int .i64 0] 26)
            have p0 : (w5.alloc (.cells #[.int .i64 0, .int .i64 0] 26)).cell? ⟨w5.heap.size, 0, none⟩ = some (.int .i64 0) := blk_cell (blk_new w5 _) 0
            have p1 : (w5.alloc (.cells #[.int .i64 0, .int .i64 0] 26)).cell? ⟨w5.heap.size, 1, none⟩ = some (.int .i64 0) := blk_cell (blk_new w5 _) 1
            have hS6 := Kd.R_reads' (Kd.S_R (Kd.S_alloc hS5 (.cells #[.int .i64 0, .int .i64 0] 26)))
            have hsc := same_calls l0 HT.out A0 A5 c0 c5 _ (Kd.C_below HC.out hb6) hc0 hS6.2.2 hS6.2.1
            have heq : ((0 : Int) == 0 && (0 : Int) == 0) = true := by decide
            clear hS5 hb5 HP2 hS6
            go_wp2_with fail
            refine hsc.mono ?_
            rintro e w7 ⟨rfl, ⟨nd7, rfl⟩⟩
            have hb7 := pw_below_drewN hb6 nd7
            clear hsc p0 p1
            go_wp2_with fail
            go_roundw
            case rel => exact ⟨2, by first | rfl | simp, ⟨by decide, by decide⟩, ⟨hb7⟩⟩
            case measure => decide
        · injection hz with hz1 hz2
          subst hz1 hz2
          have e1 : ((B []).toList == ([] : List UInt8)) = true := by rw [toList_L, L_B]; rfl
          have e2 : (B []).toList.isEmpty = true := by rw [toList_L, L_B]; rfl
          clear hrd
          go_wp2_with fail
          go_ret
          exact ⟨rfl, hb4⟩
      · clear hi
        have hps := parse_spot (L a0)
        have hpt := parse_tiny (L a0)
        have hpm := told_may (short := false) (width := 0) (parse_may (L a0))
        have hpc := parse_calls a0
        have hsz := size_L a0
        obtain ⟨P, hP⟩ : ∃ P, parse (L a0) = P := ⟨_, rfl⟩
        rw [hP] at hps hpt hpm hpc
        obtain ⟨m, e1, e2⟩ := P
        have HPT := Aside0.mk hpt
        have HPM := Aside0.mk hpm
        have HPS := Aside0.mk hps
        have HSZ := Aside0.mk hsz
        clear hP hps hpt hpm hsz
        go_wp2_with fail
        refine (hpc _).mono ?_
        rintro e w5 ⟨v5, rfl, hS5, hb5⟩
        clear hpc
        obtain ⟨A5, c5, rfl⟩ := Kd.R_slice (Kd.S_R hS5)
        have hb6 := (below_then HB.out HB.out.size hb5).alloc (below_then HB.out HB.out.size hb5).size (.cells #[.int .i64 e1, .int .i64 e2] 26)
        have p0 : (w5.alloc (.cells #[.int .i64 e1, .int .i64 e2] 26)).cell? ⟨w5.heap.size, 0, none⟩ = some (.int .i64 e1) := blk_cell (blk_new w5 _) 0
        have p1 : (w5.alloc (.cells #[.int .i64 e1, .int .i64 e2] 26)).cell? ⟨w5.heap.size, 1, none⟩ = some (.int .i64 e2) := blk_cell (blk_new w5 _) 1
        have hS6 := Kd.S_alloc hS5 (.cells #[.int .i64 e1, .int .i64 e2] 26)
        clear hS5 hb5
        rcases HPS.out with ⟨h1, h2⟩ | ⟨h1, h2, h3, h4⟩
        · have h1 : e1 = 0 := h1
          have h2 : e2 = 0 := h2
          subst h1 h2
          have hR6 := Kd.R_reads' (Kd.S_R hS6)
          have hC6 := hR6.2.2
          have hl6 := hR6.2.1
          have hpr := print_calls A5 c5 m _ hC6 hl6 HPT.out
          have hrd := told_read HPM.out
          obtain ⟨X, hX⟩ : ∃ X, toldT false 0 m = X := ⟨_, rfl⟩
          have h0 := HPM.out
          have h0 : (toldT false 0 m).2 = 0 := h0
          have hrd : parse (L (toldT false 0 m).1) = if 32768 < (L (toldT false 0 m).1).length then ([], 3, 32768) else (m, 0, 0) := hrd
          rw [hX] at hpr hrd h0
          obtain ⟨x1, x2⟩ := X
          have h0 : x2 = 0 := h0
          subst h0
          have heq : ((0 : Int) == 0 && (0 : Int) == 0) = true := by decide
          have HC6 := Aside0.mk hC6
          clear hX hR6 hS6 hC6
          go_wp2_with fail
          refine hpr.mono ?_
          rintro e w7 ⟨rfl, hb7⟩
          have hb8 := below_then hb6 hb6.size hb7
          have HC7 := Aside0.mk (Kd.C_below HC6.out hb7)
          clear hpr p0 p1
          have hpc := parse_calls x1
          have hrd : parse (L x1) = if 32768 < (L x1).length then ([], 3, 32768) else (m, 0, 0) := hrd
          have hsx := size_L x1
          rw [hrd] at hpc
          by_cases hlong : 32768 < (L x1).length
          · have cl : decide ((32768 : Int) < (x1.size : Int)) = true := decide_eq_true (by omega)
            rw [if_pos hlong] at hpc
            clear hlong hsx hrd
            go_wp2_with fail
            refine (hpc _).mono ?_
            rintro e w9 ⟨v9, rfl, hS9, hb9⟩
            obtain ⟨A9, c9, rfl⟩ := Kd.R_slice (Kd.S_R hS9)
            have hb10 := (below_then hb8 hb8.size hb9).alloc (below_then hb8 hb8.size hb9).size (.cells #[.int .i64 3, .int .i64 32768] 26)
            clear hS9 hb9 hpc
            go_wp2_with fail
            go_ret
            exact ⟨rfl, hb10⟩
          · have cl : decide ((32768 : Int) < (x1.size : Int)) = false := decide_eq_false (by omega)
            rw [if_neg hlong] at hpc
            clear hlong hsx hrd
            go_wp2_with fail
            refine (hpc _).mono ?_
            rintro e w9 ⟨v9, rfl, hS9, hb9⟩
            obtain ⟨A9, c9, rfl⟩ := Kd.R_slice (Kd.S_R hS9)
            have hb10 := (below_then hb8 hb8.size hb9).alloc (below_then hb8 hb8.size hb9).size (.cells #[.int .i64 0, .int .i64 0] 26)
            have q0 : (w9.alloc (.cells #[.int .i64 0, .int .i64 0] 26)).cell? ⟨w9.heap.size, 0, none⟩ = some (.int .i64 0) := blk_cell (blk_new w9 _) 0
            have q1 : (w9.alloc (.cells #[.int .i64 0, .int .i64 0] 26)).cell? ⟨w9.heap.size, 1, none⟩ = some (.int .i64 0) := blk_cell (blk_new w9 _) 1
            have hS10 := Kd.R_reads' (Kd.S_R (Kd.S_alloc hS9 (.cells #[.int .i64 0, .int .i64 0] 26)))
            have hsc := same_calls m HPT.out A5 A9 c5 c9 _ (Kd.C_alloc (Kd.C_below HC7.out hb9) (.cells #[.int .i64 0, .int .i64 0] 26)) hl6 hS10.2.2 hS10.2.1
            clear hS9 hb9 hpc hS10
            go_wp2_with fail
            refine hsc.mono ?_
            rintro e w11 ⟨rfl, ⟨nd11, rfl⟩⟩
            have hb11 := pw_below_drewN hb10 nd11
            clear hsc q0 q1
            go_wp2_with fail
            go_ret
            exact ⟨rfl, hb11⟩
        · have h1 : m = [] := h1
          have h2 : e1 ≠ 0 := h2
          have h3 : 0 ≤ e2 := h3
          have h4 : e2 ≤ ((L a0).length : Int) := h4
          subst h1
          have heq : (e1 == 0 && e2 == 0) = false := by rw [beq_eq_false_iff_ne.mpr h2, Bool.false_and]
          have c3 : decide (0 ≤ e2) = true := decide_eq_true h3
          have c4 : decide (e2 ≤ (a0.size : Int)) = true := decide_eq_true (by have := HSZ.out; omega)
          clear h2 h3 h4 hS6
          go_wp2_with fail
          go_ret
          exact ⟨rfl, hb6⟩
end Go.Proofs.Ytahdgaaedilcmaa.P
