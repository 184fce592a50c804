/- DepfileUnion's own function: the walk. -/
import Derived.Test.YtahdgaaedilcmaaPlUnion
import Derived.Test.YtahdgaaedilcmaaGLaw6
import Derived.Test.YtahdgaaedilcmaaPxf22
namespace Go.Proofs.Ytahdgaaedilcmaa.P
open Go.RowKit Go.Maps Go.Proofs.YtahdgaaedilcmaaW.PrintWords Go.Proofs.YtahdgaaedilcmaaW.PrintLast Go.Proofs.YtahdgaaedilcmaaW.PrintMore Go.Proofs.Ytahdgaaedilcmaa.Pl
set_option linter.unusedVariables false
set_option linter.unusedSimpArgs false
/-- two lists in a row of lists -/
theorem lists_two {w : World} {A A2 : Option Addr} {c c2 : Nat} {l l2 : List S32} {e : TypeId} (hl : l.length ≤ c) (hC : Kd.C k32 w A l.length l) (hl2 : l2.length ≤ c2) (hC2 : Kd.C k32 w A2 l2.length l2) :
    Kd.C (Kd.slice 32 k32) (w.alloc (.cells #[.slice A l.length c, .slice A2 l2.length c2] e)) (some ⟨w.heap.size, 0, none⟩) [l, l2].length [l, l2] := by
  have h0 : (w.alloc (.cells #[.slice A l.length c, .slice A2 l2.length c2] e)).cell? ⟨w.heap.size, 0, none⟩ = some (.slice A l.length c) := blk_cell (blk_new w _) 0
  have h1 : (w.alloc (.cells #[.slice A l.length c, .slice A2 l2.length c2] e)).cell? ⟨w.heap.size, 1, none⟩ = some (.slice A2 l2.length c2) := blk_cell (blk_new w _) 1
  refine ⟨rfl, by simp, fun _ => ⟨_, rfl, fun j p hj => ?_⟩⟩
  match j, hj with
  | 0, hj =>
    simp at hj
    subst hj
    refine ⟨[.slice A l.length c], rfl, ⟨A, c, rfl, hl, Kd.C_alloc hC _⟩, fun i u hu => ?_⟩
    match i, hu with
    | 0, hu =>
      simp at hu
      subst hu
      exact h0
  | 1, hj =>
    simp at hj
    subst hj
    refine ⟨[.slice A2 l2.length c2], rfl, ⟨A2, c2, rfl, hl2, Kd.C_alloc hC2 _⟩, fun i u hu => ?_⟩
    match i, hu with
    | 0, hu =>
      simp at hu
      subst hu
      exact h1
theorem has_ev (l : List ByteArray) (x : ByteArray) (hl : l.length < 8796093022208) : Ev (fun k => brickyardlaw16_has.f k l x) (inS l x) := by
  have heq : ∀ y : ByteArray, y.toList = x.toList ↔ (y.data.toList == x.data.toList) = true := by
    intro y
    rw [toList_L, toList_L]
    exact beq_iff_eq.symm
  have key : ∀ d i : Nat, i + d = l.length → (∀ j, (h : j < i) → (hj : j < l.length) → l[j].toList ≠ x.toList) → Ev (fun k => brickyardlaw16_has.l0 k l x (i : Int)) (inS l x) := by
    intro d
    induction d with
    | zero =>
      intro i hi hno
      refine ev_succ ?_
      simp only [brickyardlaw16_has.l0]
      refine ev_ite_neg (by omega) (ev_const ?_)
      congr 1
      symm
      rw [← Bool.not_eq_true]
      intro h
      unfold inS at h
      rw [List.any_eq_true] at h
      obtain ⟨y, hy, he⟩ := h
      obtain ⟨j, hj, rfl⟩ := List.getElem_of_mem hy
      exact hno j (by omega) hj ((heq _).2 he)
    | succ d ih =>
      intro i hi hno
      have hlt : i < l.length := by omega
      have hrd : rdOf ByteArray.empty l (i : Int) = l[i] := by
        unfold rdOf; rw [Int.toNat_natCast, List.getD_eq_getElem?_getD, List.getElem?_eq_getElem hlt]; rfl
      refine ev_succ ?_
      simp only [brickyardlaw16_has.l0]
      rw [hrd]
      refine ev_ite_pos (by omega) (ev_ite_pos (by omega) ?_)
      by_cases h : l[i].toList = x.toList
      · refine ev_ite_pos h (ev_const ?_)
        congr 1
        symm
        unfold inS
        rw [List.any_eq_true]
        exact ⟨l[i], List.getElem_mem hlt, (heq _).1 h⟩
      · refine ev_ite_neg h ?_
        have := ih (i + 1) (by omega) (fun j hj hjl => by
          rcases Nat.lt_succ_iff_lt_or_eq.1 hj with hj | rfl
          · exact hno j hj hjl
          · exact h)
        rw [w64_ (by omega) (by omega)]
        exact this
  exact key l.length 0 (Nat.zero_add _) (fun j h => absurd h (Nat.not_lt_zero _))
theorem filt_step {α : Type} (p : α → Bool) (l : List α) (i : Nat) (h : i < l.length) : ∀ {n : Nat}, n + ((l.take (i + 1)).filter p).length = if p l[i] = true then n + ((l.take i).filter p).length + 1 else n + ((l.take i).filter p).length := by
  intro n
  rw [List.take_succ_eq_append_getElem h, List.filter_append, List.length_append]
  by_cases hp : p l[i] = true
  · rw [if_pos hp]; simp [hp, Nat.add_assoc]
  · rw [if_neg hp]; simp [hp]
theorem filt_at {α : Type} (a : List α) (p : α → Bool) (l : List α) (i : Nat) (h : i < l.length) : p l[i] = true →
    a.length + ((l.take i).filter p).length < (a ++ l.filter p).length ∧ (a ++ l.filter p)[a.length + ((l.take i).filter p).length]? = some l[i] := by
  intro hp
  have e : l.filter p = (l.take i).filter p ++ l[i] :: (l.drop (i + 1)).filter p := by
    have h1 : l = l.take i ++ l[i] :: l.drop (i + 1) := by rw [← List.drop_eq_getElem_cons h, List.take_append_drop]
    have h2 : (l.take i ++ l[i] :: l.drop (i + 1)).filter p = (l.take i).filter p ++ l[i] :: (l.drop (i + 1)).filter p := by rw [List.filter_append, List.filter_cons, if_pos hp]
    rw [← h2, ← h1]
  constructor
  · rw [e]; simp
  · rw [e, List.getElem?_append_right (Nat.le_add_right _ _), Nat.add_sub_cancel_left, List.getElem?_append_right (Nat.le_refl _), Nat.sub_self]; rfl
theorem filt_le {α : Type} (a : List α) (p : α → Bool) (l : List α) (i : Nat) : a.length + ((l.take i).filter p).length ≤ (a ++ l.filter p).length := by
  have h : l.filter p = (l.take i).filter p ++ (l.drop i).filter p := by rw [← List.filter_append, List.take_append_drop]
  rw [h]; simp
theorem tot_app (l m : List S32) : tot (l ++ m) = tot l + tot m := by
  unfold tot; rw [List.map_append, List.sum_append]
theorem sumD_step (r : S32) : ∀ out : List S32, sumD (rmStep out r) ≤ sumD out + r.f1.length
  | [] => by
    have h := onceGo_len r.f1 []
    have e : sumD (rmStep [] r) = (onceGo [] r.f1).length + 0 := rfl
    have e0 : sumD [] = 0 := rfl
    rw [e, e0]; simp at h; omega
  | o :: t => by
    unfold rmStep
    split
    · have h := onceGo_len r.f1 o.f1
      have e : sumD (⟨o.f0, onceGo o.f1 r.f1⟩ :: t) = (onceGo o.f1 r.f1).length + sumD t := rfl
      have e0 : sumD (o :: t) = o.f1.length + sumD t := rfl
      rw [e, e0]; omega
    · have h := sumD_step r t
      have e : sumD (o :: rmStep t r) = o.f1.length + sumD (rmStep t r) := rfl
      have e0 : sumD (o :: t) = o.f1.length + sumD t := rfl
      rw [e, e0]; omega
theorem sumD_merge (l : List S32) : sumD (mergeL l) ≤ sumD l := by
  rw [← merge_eq]
  have key : ∀ (b out : List S32), sumD (b.foldl rmStep out) ≤ sumD out + sumD b := by
    intro b
    induction b with
    | nil => intro out; exact Nat.le_refl _
    | cons r b ih =>
      intro out
      have h1 := ih (rmStep out r)
      have h2 := sumD_step r out
      have e : sumD (r :: b) = r.f1.length + sumD b := rfl
      rw [List.foldl_cons, e]; omega
  have := key l []
  have e0 : sumD [] = 0 := rfl
  rw [e0, Nat.zero_add] at this
  exact this
theorem merged_ok {l : List S32} (hs : Small l) (hn : Normable l) : Small (mergeL l) ∧ Normable (mergeL l) ∧ sumD (mergeL l) ≤ 1000000 := by
  obtain ⟨h1, h2⟩ := mergeL_len hs
  have hsum := sumD_merge l
  have h3 : sumD l ≤ 1000000 := hs.2.1
  have hsz : ∀ n : Nat, (∀ r ∈ l, r.f0.size ≤ n ∧ ∀ d ∈ r.f1, d.size ≤ n) → ∀ r ∈ mergeL l, r.f0.size ≤ n ∧ ∀ d ∈ r.f1, d.size ≤ n := by
    intro n h r hr
    obtain ⟨⟨q, hq, he⟩, hf⟩ := mem_mergeL.1 hr
    refine ⟨by rw [← he]; exact (h q hq).1, fun d hd => ?_⟩
    rw [hf] at hd
    rcases onceGo_mem _ _ _ hd with hd | hd
    · cases hd
    · obtain ⟨q2, hq2, _, hd2⟩ := mem_depsOf.1 hd
      exact (h q2 hq2).2 d hd2
  have ha := hsz 9223372036854775807 hs.2.2
  have hb := hsz 9000000000 (fun r hr => ⟨(hn.2 r hr).1, (hn.2 r hr).2.2⟩)
  exact ⟨⟨by have := hs.1; omega, by show sumD (mergeL l) ≤ 1000000; omega, ha⟩, ⟨by have := hs.1; omega, fun r hr => ⟨(hb r hr).1, h2 r hr, (hb r hr).2⟩⟩, by omega⟩
def bd (e : Int) : Bool := e != 0 && e != 4
theorem bd_bad (e : Int) : bd e = true ↔ badE e := by unfold bd badE; simp
set_option maxRecDepth 1000000 in
theorem bad_calls (e : Int) (w : World) : Calls Try.prog 23 #[.int .i64 e] w fun r w' => r = .returned (.bool (bd e)) ∧ w' = w := by
  by_cases h0 : e = 0
  · subst h0
    go_enter Try.func23, Try.ntmps23
    go_wp2
    go_ret
    exact ⟨rfl, rfl⟩
  · have h0b : (e != 0) = true := bne_iff_ne.mpr h0
    have hbd : bd e = (e != 4) := by unfold bd; rw [h0b]; rfl
    rw [hbd]
    go_enter Try.func23, Try.ntmps23
    go_wp2
    go_ret
    exact ⟨by simp [h0], rfl⟩
theorem heap_k32 : Kd.Heap k32 := Kd.heap_iso _ (Kd.heap_pair Kd.heap_string (Kd.heap_slice 9 Kd.heap_string))
/-- append(both, l...): rules that lead to what came in -/
theorem both_event {w0 W : World} {s y : Operand} {A : Option Addr} {m c : Nat} {v : Value} {xs ys : List S32} {ops : Array Oper} {rest : List Oper} {o : Oper} {a : Act} {Q : Exit → Act → World → Prop}
    (hgd : o.guard = none) (ho : o.op = .call { callee := .builtin .append, args := #[s, y], argTypes := #[23, 23] }) (hs : a.eval s = v) (hy : a.eval y = .slice A m c)
    (hN : Kd.N k32 32 W w0.heap.size (fun _ => True) v xs) (hC : Kd.C k32 w0 A m ys) (hB : Below w0.heap.size w0 W) (hl : (xs.length + m) * 40 ≤ 140737488355328)
    (h : ∀ v1 w1, Kd.N k32 32 w1 w0.heap.size (fun _ => True) v1 (xs ++ ys) → Below w0.heap.size w0 w1 → wpList Try.prog ops Q rest (a.put o.dst v1) w1) : wpList Try.prog ops Q (o :: rest) a W := by
  have hF := Kd.F_below (Kd.C_F heap_k32 hC) hB
  exact Kd.N_append_rows k32 (w0 := w0) (W := W) w0.heap.size hgd s y 23 32 (.agg #[.string ⟨#[]⟩, .slice none 0 0]) 40 ho Try.underlying23 info32 rfl (by decide) (by omega) v xs ys A m c (fun _ => True) (fun k => k < w0.heap.size) hs hy hN hF
    (fun k hk => ⟨trivial, fun he => by have := Kd.N_base hN k he.symm; omega⟩) (fun _ _ => trivial) hB hB.size hl (fun v1 w1 h1 hb _ _ => h v1 w1 h1 hb)
theorem both_start (W : World) : Kd.N k32 32 (W.alloc (.cells #[] 32)) W.heap.size (fun _ => True) (.slice (some ⟨W.heap.size, 0, none⟩) 0 0) [] := by
  have h1 := World.ownsRow_lit (base := W.heap.size) (e := 32) (size := 2) W #[] 0 (Nat.le_refl _) (by simp [maxLen]) (by simp)
  exact Kd.R_N ⟨fun _ _ => trivial, [], (by simpa using h1 : (W.alloc (.cells #[] 32)).ownsRow W.heap.size 32 2 (.slice (some ⟨W.heap.size, 0, none⟩) 0 0) 0 []), Reps.none _ _⟩
attribute [local go_sem high] eqA26
set_option maxHeartbeats 2000000 in
set_option maxRecDepth 1000000 in
theorem law8_walk (a0 : ByteArray) (A0 : Option Addr) (c0 : Nat) (l0 : List S32) (A1 : Option Addr) (c1 : Nat) (l1 : List S32) (w : World) (hr0 : Kd.C k32 w A0 l0.length l0) (hc0 : l0.length ≤ c0) (hRB0 : RB l0)
    (hr1 : Kd.C k32 w A1 l1.length l1) (hc1 : l1.length ≤ c1) (hRB1 : RB l1) :
    Calls Try.prog 8 #[.string a0, .slice A0 l0.length c0, .slice A1 l1.length c1] w fun e w' => e = .returned (.bool true) ∧ Below w.heap.size w w' := by
  obtain ⟨kw, hkw⟩ := ev_some works_ev
  obtain ⟨b, hbe, hbt⟩ := great_ev [l0, l1] (by simp) (fun l hl => by rcases List.mem_cons.1 hl with rfl | hl; exact hRB0; rw [List.mem_singleton] at hl; rw [hl]; exact hRB1)
  obtain ⟨kg, hkg⟩ := ev_some hbe
  obtain ⟨ki, hki⟩ := ev_some (is_ev a0)
  have HW := Aside0.mk hkw
  have HG := Aside0.mk hkg
  have HC0 := Aside0.mk hr0
  have HC1 := Aside0.mk hr1
  have HI := Aside0.mk hki
  clear hkw hkg hr0 hr1 hbe hki
  go_enter Try.func8, Try.ntmps8
  go_wp2_with fail
  refine (brickyardlaw16_works.calls kw true _ HW.out).mono ?_
  rintro e w1 ⟨rfl, hb1⟩
  have hs1 := hb1.size
  go_wp2_with fail
  have hCg := lists_two (e := 23) hc0 (Kd.C_below HC0.out hb1) hc1 (Kd.C_below HC1.out hb1)
  have hbg : Below w.heap.size w (w1.alloc (.cells #[.slice A0 l0.length c0, .slice A1 l1.length c1] 23)) := hb1.alloc hs1 _
  refine (brickyardlaw16_great.calls kg (some ⟨w1.heap.size, 0, none⟩) 2 [l0, l1] b _ hCg (Nat.le_refl _) HG.out).mono ?_
  rintro e w2 ⟨rfl, ⟨nd, rfl⟩⟩
  have hb2 := pw_below_drewN hbg nd
  obtain ⟨W2, hW2⟩ : ∃ W2, W2 = (w1.alloc (.cells #[.slice A0 l0.length c0, .slice A1 l1.length c1] 23)).drewN nd := ⟨_, rfl⟩
  rw [← hW2] at hb2
  cases b with
  | true =>
    go_wp2
    rw [← hW2]
    go_ret
    exact ⟨rfl, hb2⟩
  | false =>
    have htot := hbt rfl
    have htotb : tot l0 + tot l1 < 32768 := by have : totL [l0, l1] = tot l0 + (tot l1 + 0) := rfl; omega
    go_wp2_with fail
    rw [← hW2]
    refine (path_Is.calls ki a0 (isL (L a0)) W2 HI.out).mono ?_
    rintro e w3 ⟨rfl, ⟨nd3, rfl⟩⟩
    have hb3 := pw_below_drewN hb2 nd3
    obtain ⟨W3, hW3⟩ : ∃ W3, W3 = W2.drewN nd3 := ⟨_, rfl⟩
    rw [← hW3] at hb3
    rw [← hW3]
    clear hCg hbg hW2 hW3 hb2 hbt htot
    by_cases hia : isL (L a0) = true
    case neg =>
      have hia2 : isL (L a0) = false := by simpa using hia
      rw [hia2]
      go_wp2
      go_ret
      exact ⟨rfl, hb3⟩
    rw [hia]
    have htot2 : tot (l0 ++ l1) < 32768 := by rw [tot_app]; exact htotb
    obtain ⟨hn0, hd0⟩ := normable_of (l := l0) (by omega)
    obtain ⟨hn1, hd1⟩ := normable_of (l := l1) (by omega)
    obtain ⟨hnb, hdb⟩ := normable_of htot2
    obtain ⟨hsb, hlb⟩ := small_of htot2
    obtain ⟨hsm, hnm, hdm⟩ := merged_ok hsb hnb
    obtain ⟨hml, hmd⟩ := mergeL_len hsb
    obtain ⟨hU2, hU3, hU4⟩ := union_facts hia l0 l1
    have hmm := merge_merge (l0 ++ l1)
    obtain ⟨kA, hkA⟩ := ev_some (deps_ev a0 l0 hn0 hd0)
    obtain ⟨kB, hkB⟩ := ev_some (deps_ev a0 l1 hn1 hd1)
    obtain ⟨kAll, hkAll⟩ := ev_some (deps_ev a0 (l0 ++ l1) hnb hdb)
    obtain ⟨kC, hkC⟩ := ev_some (deps_ev a0 (mergeL (l0 ++ l1)) hnm hdm)
    have hlA := depsL_len a0 l0
    have hlB := depsL_len a0 l1
    have hlAll := depsL_len a0 (l0 ++ l1)
    have hbl : (l0 ++ l1).length = l0.length + l1.length := List.length_append
    obtain ⟨bo, hbo⟩ : ∃ bo, l0 ++ l1 = bo := ⟨_, rfl⟩
    have hsame := same_refl (mergeL bo) (by rw [← hbo]; omega) (fun r hr => by rw [← hbo] at hr; have := hmd r hr; omega)
    obtain ⟨kS, hkS⟩ := ev_some hsame
    have hl0 : l0.length ≤ 1000000 := hn0.1
    have hl1 : l1.length ≤ 1000000 := hn1.1
    have HBO := Aside0.mk hbo
    rw [hbo] at hU2 hU3 hU4 hmm hkAll hkC hlAll hbl hsb hsm hdb
    obtain ⟨M, hM⟩ : ∃ M, mergeL bo = M := ⟨_, rfl⟩
    have HM := Aside0.mk hM
    rw [hM] at hU2 hmm hkC hkS hsm
    obtain ⟨⟨RA, eA⟩, hRA⟩ : ∃ R, depsL a0 l0 = R := ⟨_, rfl⟩
    obtain ⟨⟨RB, eB⟩, hRB⟩ : ∃ R, depsL a0 l1 = R := ⟨_, rfl⟩
    obtain ⟨⟨RAll, eAll⟩, hRAll⟩ : ∃ R, depsL a0 bo = R := ⟨_, rfl⟩
    obtain ⟨⟨RC, eC⟩, hRC⟩ : ∃ R, depsL a0 M = R := ⟨_, rfl⟩
    rw [hRA] at hkA hlA hU3 hU4
    rw [hRB] at hkB hlB hU3 hU4
    rw [hRAll] at hkAll hlAll hU2 hU3 hU4
    rw [hRC] at hkC hU2
    dsimp only at hU2 hU3 hU4 hlA hlB hlAll
    have hmA : RA.length ≤ 1000000 := by omega
    have hmB : RB.length ≤ 1000000 := by omega
    have hmAll : RAll.length ≤ 1000000 := by omega
    obtain ⟨kt, hkt⟩ := ev_some (texts_refl RA (by omega))
    have HKT := Aside0.mk hkt
    have HKA := Aside0.mk hkA
    have HKB := Aside0.mk hkB
    have HKAll := Aside0.mk hkAll
    have HKC := Aside0.mk hkC
    have HKS := Aside0.mk hkS
    have HSB := Aside0.mk hsb
    have HSM := Aside0.mk hsm
    have HMM := Aside0.mk hmm
    have HU2 := Aside0.mk hU2
    have HU3 := Aside0.mk hU3
    have HU4 := Aside0.mk hU4
    clear hkt hkA hkB hkAll hkC hkS hsb hsm hmm hU2 hU3 hU4 hRA hRB hRAll hRC hM hbo hsame hn0 hn1 hnb hnm hd0 hd1 hdb hdm hml hmd hlA hlB hlAll hlb htot2 htotb hia hbl
    have hbJ : Below W3.heap.size W3 (W3.alloc (.cells #[] 32)) := (Below.refl _ _).alloc (Nat.le_refl _) _
    have hN0 := both_start W3
    have hW0 := Kd.C_below HC0.out hb3
    have hW1 := Kd.C_below HC1.out hb3
    go_wp2_with (first | ((with_reducible refine gate_builtin (b := .append) (xs := #[.tmp 35, .tmp 36]) rfl ?_); at_builtin; refine both_event (w0 := W3) rfl rfl rfl rfl hN0 hW0 hbJ (by simp; omega) ?_; intro v1 w4 hN1 hb4) | ((with_reducible refine gate_builtin (b := .append) (xs := #[.tmp 37, .tmp 38]) rfl ?_); at_builtin; refine both_event (w0 := W3) rfl rfl rfl rfl hN1 hW1 hb4 (by simp; omega) ?_; intro v2 w5 hN2 hb5))
    rw [List.nil_append, HBO.out] at hN2
    obtain ⟨AJ, cJ, rfl, hcJ, hCJ⟩ := Kd.N_reads hN2
    have hb5w := below_then hb3 hb3.size hb5
    clear hN0 hN1 hN2 hW0 hW1 hbJ hb4 hb5
    go_wp2_with fail
    refine (depfile_Deps.calls kA a0 A0 c0 l0 RA eA w5 (Kd.C_below HC0.out hb5w) hc0 HKA.out).mono ?_
    rintro e w6 ⟨vA, rfl, hRA, hb6⟩
    obtain ⟨AA, cA, rfl, hcA, hCA⟩ := Kd.R_reads hRA
    have hb6w := below_then hb5w hb5w.size hb6
    replace hCJ := Kd.C_below hCJ hb6
    clear hRA hb5w
    go_wp2_with fail
    refine (depfile_Deps.calls kB a0 A1 c1 l1 RB eB w6 (Kd.C_below HC1.out hb6w) hc1 HKB.out).mono ?_
    rintro e w7 ⟨vB, rfl, hRB, hb7⟩
    obtain ⟨AB, cB, rfl, hcB, hCB⟩ := Kd.R_reads hRB
    have hb7w := below_then hb6w hb6w.size hb7
    replace hCJ := Kd.C_below hCJ hb7
    replace hCA := Kd.C_below hCA hb7
    clear hRB hb6w
    go_wp2_with fail
    refine (depfile_Deps.calls kAll a0 AJ cJ bo RAll eAll w7 hCJ hcJ HKAll.out).mono ?_
    rintro e w8 ⟨vAll, rfl, hRAll, hb8⟩
    obtain ⟨AAll, cAll, rfl, hcAll, hCAll⟩ := Kd.R_reads hRAll
    have hb8w := below_then hb7w hb7w.size hb8
    replace hCJ := Kd.C_below hCJ hb8
    replace hCA := Kd.C_below hCA hb8
    replace hCB := Kd.C_below hCB hb8
    clear hRAll hb7w
    go_wp2_with fail
    refine (depfile_Merge.calls AJ cJ bo w8 hCJ hcJ HSB.out).mono ?_
    rintro e w9 ⟨vM, rfl, hSM, hb9⟩
    rw [HM.out] at hSM
    obtain ⟨AM, cM, rfl⟩ := Kd.R_slice (Kd.S_R hSM)
    obtain ⟨_, hcM, hCM⟩ := Kd.R_reads' (Kd.S_R hSM)
    have hb9w := below_then hb8w hb8w.size hb9
    replace hCA := Kd.C_below hCA hb9
    replace hCB := Kd.C_below hCB hb9
    replace hCAll := Kd.C_below hCAll hb9
    clear hSM hb8w hCJ
    go_wp2_with fail
    refine (depfile_Merge.calls AM cM M w9 hCM hcM HSM.out).mono ?_
    rintro e w10 ⟨vM2, rfl, hSM2, hb10⟩
    rw [HMM.out] at hSM2
    obtain ⟨AM2, cM2, rfl⟩ := Kd.R_slice (Kd.S_R hSM2)
    obtain ⟨_, hcM2, hCM2⟩ := Kd.R_reads' (Kd.S_R hSM2)
    have hb10w := below_then hb9w hb9w.size hb10
    replace hCA := Kd.C_below hCA hb10
    replace hCB := Kd.C_below hCB hb10
    replace hCAll := Kd.C_below hCAll hb10
    replace hCM := Kd.C_below hCM hb10
    clear hSM2 hb9w
    go_wp2_with fail
    refine (depfile_Deps.calls kC a0 AM cM M RC eC w10 hCM hcM HKC.out).mono ?_
    rintro e w11 ⟨vC, rfl, hRC, hb11⟩
    obtain ⟨AC, cC, rfl, hcC, hCC⟩ := Kd.R_reads hRC
    have hb11w := below_then hb10w hb10w.size hb11
    replace hCA := Kd.C_below hCA hb11
    replace hCB := Kd.C_below hCB hb11
    replace hCAll := Kd.C_below hCAll hb11
    replace hCM := Kd.C_below hCM hb11
    replace hCM2 := Kd.C_below hCM2 hb11
    clear hRC hb10w
    go_wp2_with fail
    refine (brickyardref16_Same.calls kS AM cM M AM2 cM2 M true w11 hCM hcM hCM2 hcM2 HKS.out).mono ?_
    rintro e w12 ⟨rfl, ⟨nd12, rfl⟩⟩
    have hb9 := pw_below_drewN hb11w nd12
    have HA := Aside0.mk (Kd.C_drewN hCA nd12)
    have HB := Aside0.mk (Kd.C_drewN hCB nd12)
    have HAll := Aside0.mk (Kd.C_drewN hCAll nd12)
    have HCC := Aside0.mk (Kd.C_drewN hCC nd12)
    obtain ⟨W9, hW9⟩ : ∃ W9, W9 = w11.drewN nd12 := ⟨_, rfl⟩
    rw [← hW9] at hb9 HA HB HAll HCC
    clear hCA hCB hCAll hCC hCM hCM2 hb11w hb6 hb7 hb8 hb10 hb11
    obtain ⟨hg1, hlen, hmem⟩ := HU2.out
    obtain ⟨bg, hbg⟩ : ∃ bg, (eAll == 0) = bg := ⟨_, rfl⟩
    have hbh : (eC == 0) = bg := by
      rw [← hbg, Bool.eq_iff_iff, beq_iff_eq, beq_iff_eq]; exact hg1.symm
    have hlenb : ((RC.length : Int) == (RAll.length : Int)) = true := by rw [hlen]; exact beq_self_eq_true _
    have hlenc : ((RC.length : Int) != (RAll.length : Int)) = false := by rw [hlen]; exact bne_self_eq_false _
    have hmC : RC.length ≤ 1000000 := by omega
    have HMEM := Aside0.mk hmem
    clear hg1 hlen hmem
    go_wp2_with fail
    rw [← hW9]
    clear hW9
    have hbR := Below.refl W9.heap.size W9
    go_loopg [88] (RC.length + 1) (fun n iv wq => ∃ i : Nat, iv = .int .i64 (i : Int) ∧ Aside0 (i + n = RC.length + 1 ∧ i ≤ RC.length) ∧ Aside0 (Below W9.heap.size W9 wq))
    case atStart => exact ⟨0, rfl, ⟨Nat.zero_add _, Nat.zero_le _⟩, ⟨hbR⟩⟩
    case round =>
      obtain ⟨i, rfl, ⟨hn, hil⟩, ⟨hbw⟩⟩ := hrel
      clear hbR
      by_cases c1' : i < RC.length
      case neg =>
        have c1b : decide ((i : Int) < (RC.length : Int)) = false := decide_eq_false (by omega)
        have hbF := below_then hb9 hb9.size hbw
        by_cases hbad : bd eA = true ∨ bd eB = true
        case pos =>
          obtain ⟨hbAll, hnil⟩ := HU3.out (hbad.imp (bd_bad _).1 (bd_bad _).1)
          have hbd3 : bd eAll = true := (bd_bad _).2 hbAll
          subst hnil
          have hz : ((([] : List ByteArray).length : Int) == 0) = true := rfl
          clear hbAll
          by_cases hbA : bd eA = true
          · clear hbad
            go_wp2_with (first | (go_at_call 23; refine (bad_calls _ _).mono ?_; rintro e w' ⟨rfl, hw'⟩; rw [hw']; clear hw'))
            go_ret
            exact ⟨rfl, hbF⟩
          · have hbB : bd eB = true := hbad.resolve_left hbA
            have hbA : bd eA = false := by simpa using hbA
            clear hbad
            go_wp2_with (first | (go_at_call 23; refine (bad_calls _ _).mono ?_; rintro e w' ⟨rfl, hw'⟩; rw [hw']; clear hw'))
            go_ret
            exact ⟨rfl, hbF⟩
        have hbA : bd eA = false := by
          rw [← Bool.not_eq_true]; exact fun h => hbad (.inl h)
        have hbB : bd eB = false := by
          rw [← Bool.not_eq_true]; exact fun h => hbad (.inr h)
        obtain ⟨hg, hall⟩ := HU4.out (fun h => hbad (.inl ((bd_bad _).2 h))) (fun h => hbad (.inr ((bd_bad _).2 h)))
        have hAll2 := Aside0.mk hall
        have hal : RA.length ≤ RAll.length := by rw [hall, List.length_append]; omega
        clear hall hbad
        by_cases heA : eA = 0
        case pos =>
          have heAb : (eA == 0) = true := beq_iff_eq.2 heA
          have hbgt : bg = true := by rw [← hbg]; exact beq_iff_eq.2 (hg.2 (.inl heA))
          subst hbgt
          clear hg heA
          have hcut : ∀ W : World, (Instr.slice 30 (.slice AAll RAll.length cAll) none (some (.int .i64 (RA.length : Int))) none).run Try.prog W = .ok (.slice AAll RA.length cAll) W := by
            intro W
            obtain ⟨i0, hi0, hzz⟩ := Option.map_eq_some_iff.1 info9
            have h := cut_to (P := Try.prog) 30 9 .i64 Try.underlying30 hi0 AAll RAll.length cAll (RA.length : Int) (Int.natCast_nonneg _) (by omega) hcAll W
            rwa [Int.toNat_natCast] at h
          have hCt : Kd.string.C wr AAll RA.length RA := by
            have h := Kd.C_take (k := Kd.string) (Kd.C_below HAll.out hbw) (m := RA.length) (by omega)
            have e : RAll.take RA.length = RA := by rw [hAll2.out, List.take_left]
            rwa [e] at h
          have hlt1 : decide ((RAll.length : Int) < (RA.length : Int)) = false := decide_eq_false (by omega)
          have hltn : decide (RAll.length < RA.length) = false := decide_eq_false (by omega)
          have hcT : RA.length ≤ cAll := Nat.le_trans hal hcAll
          go_wp2_with (first | (go_at_call 23; refine (bad_calls _ _).mono ?_; rintro e w' ⟨rfl, hw'⟩; rw [hw']; clear hw') | (go_at_call 20; refine (brickyardref16_Texts.calls kt AAll cAll RA AA cA RA true wr hCt hcT (Kd.C_below HA.out hbw) hcA HKT.out).mono ?_; rintro e w' ⟨rfl, ⟨nt, rfl⟩⟩))
          have hbT := hbw.trans ((pw_below_drewN (Below.refl wr.heap.size wr) nt).mono hbw.size)
          obtain ⟨wT, hwT⟩ : ∃ wT, wT = wr.drewN nt := ⟨_, rfl⟩
          rw [← hwT] at hbT
          try rw [← hwT]
          clear hcut hCt hwT
          go_loopg [21, 142] (RB.length + 1) (fun n nv iv wq => ∃ i : Nat, iv = .int .i64 (i : Int) ∧ nv = .int .i64 ((RA.length + ((RB.take i).filter (fun x => !inS RA x)).length : Nat) : Int) ∧ Aside0 (i + n = RB.length + 1 ∧ i ≤ RB.length) ∧ Aside0 (Below W9.heap.size W9 wq))
          case atStart => exact ⟨0, rfl, rfl, ⟨Nat.zero_add _, Nat.zero_le _⟩, ⟨hbT⟩⟩
          case round =>
            obtain ⟨i, rfl, rfl, ⟨hn, hil⟩, ⟨hbq⟩⟩ := hrel
            clear hbT
            by_cases c1 : i < RB.length
            case neg =>
              have c1b : decide ((i : Int) < (RB.length : Int)) = false := decide_eq_false (by omega)
              have hend : ((((RA.length + ((RB.take i).filter (fun x => !inS RA x)).length : Nat) : Int)) == (RAll.length : Int)) = true := by
                rw [List.take_of_length_le (by omega), hAll2.out, List.length_append]; simp
              obtain ⟨cnt, hcnt⟩ : ∃ cnt, ((RA.length + ((RB.take i).filter (fun x => !inS RA x)).length : Nat) : Int) = cnt := ⟨_, rfl⟩
              rw [hcnt] at hend
              try rw [hcnt]
              clear hcnt
              go_wp2
              go_ret
              exact ⟨by first | rfl | rw [hend], below_then hb9 hb9.size hbq⟩
            have c1b : decide ((i : Int) < (RB.length : Int)) = true := decide_eq_true (by omega)
            obtain ⟨adb, rfl, hcell⟩ := Kd.at_string (Kd.C_below HB.out hbq) (i : Int) (Int.natCast_nonneg _) (by omega)
            rw [Int.toNat_natCast] at hcell
            have hx : rdOf ByteArray.empty RB (i : Int) = RB[i] := by
              unfold rdOf; rw [Int.toNat_natCast, List.getD_eq_getElem?_getD, List.getElem?_eq_getElem c1]; rfl
            rw [hx] at hcell
            obtain ⟨kh, hkh⟩ := ev_some (has_ev RA RB[i] (by omega))
            have hfl := filt_step (fun x => !inS RA x) RB i c1 (n := RA.length)
            have hat := filt_at RA (fun x => !inS RA x) RB i c1
            rw [← hAll2.out] at hat
            have hcle := filt_le RA (fun x => !inS RA x) RB i
            rw [← hAll2.out] at hcle
            obtain ⟨cnt, hcnt⟩ : ∃ cnt, RA.length + ((RB.take i).filter (fun x => !inS RA x)).length = cnt := ⟨_, rfl⟩
            rw [hcnt] at hfl hat hcle
            try rw [hcnt]
            have HKH := Aside0.mk hkh
            have HFL := Aside0.mk hfl
            clear hx hkh hfl hcnt
            by_cases c2 : inS RA RB[i] = true
            case pos =>
              rw [c2] at HKH
              have hq := HFL.out
              rw [if_neg (by rw [c2]; decide)] at hq
              have HQ := Aside0.mk hq
              clear hat HFL hq
              go_wp2_with (first | (go_at_call 22; refine (brickyardlaw16_has.calls kh AA cA RA RB[i] true wr (Kd.C_below HA.out hbq) hcA HKH.out).mono ?_; rintro e w' ⟨rfl, ⟨nt, rfl⟩⟩))
              go_roundg (gk - 1)
              case measure => omega
              case rel => exact ⟨i + 1, by first | rfl | (rw [w64_ (by omega) (by omega)]; rfl) | simp, by rw [HQ.out], ⟨by omega, by omega⟩, ⟨hbq.trans ((pw_below_drewN (Below.refl wr.heap.size wr) nt).mono hbq.size)⟩⟩
            case neg =>
              have c2 : inS RA RB[i] = false := by simpa using c2
              rw [c2] at HKH
              have hq := HFL.out
              rw [if_pos (by rw [c2]; decide)] at hq
              obtain ⟨hcl, hce⟩ := hat (by rw [c2]; rfl)
              obtain ⟨ada, hAA, hcellA⟩ := Kd.at_string (Kd.C_below HAll.out hbq) (cnt : Int) (Int.natCast_nonneg _) (by omega)
              rw [Int.toNat_natCast] at hcellA
              have hxa : rdOf ByteArray.empty RAll (cnt : Int) = RB[i] := by
                unfold rdOf; rw [Int.toNat_natCast, List.getD_eq_getElem?_getD, hce]; rfl
              rw [hxa] at hcellA
              subst hAA
              have hge : decide ((RAll.length : Int) ≤ (cnt : Int)) = false := decide_eq_false (by omega)
              have hge2 : decide ((cnt : Int) ≥ (RAll.length : Int)) = false := decide_eq_false (by omega)
              obtain ⟨s, hs⟩ : ∃ s, RB[i] = s := ⟨_, rfl⟩
              rw [hs] at hcell hcellA HKH
              have hss : (s.toList == s.toList) = true := beq_self_eq_true _
              have HQ := Aside0.mk hq
              have HCE := Aside0.mk hcl
              clear HFL hq hce hxa hs c2 hat
              have hcl2 := HCE.out
              go_wp2_with (first | (go_at_call 22; refine (brickyardlaw16_has.calls kh AA cA RA s false wr (Kd.C_below HA.out hbq) hcA HKH.out).mono ?_; rintro e w' ⟨rfl, ⟨nt, rfl⟩⟩))
              go_roundg (gk - 1)
              case measure => omega
              case rel => exact ⟨i + 1, by first | rfl | (rw [w64_ (by omega) (by omega)]; rfl) | simp, by first | (rw [HQ.out]; rfl) | (rw [HQ.out]; simp) | (rw [HQ.out, w64_ (by omega) (by omega)]; rfl), ⟨by omega, by omega⟩, ⟨hbq.trans ((pw_below_drewN (Below.refl wr.heap.size wr) nt).mono hbq.size)⟩⟩
        case neg =>
          have heAb : (eA == 0) = false := beq_eq_false_iff_ne.2 heA
          have hbgB : (eB == 0) = bg := by
            rw [← hbg, Bool.eq_iff_iff, beq_iff_eq, beq_iff_eq]
            exact ⟨fun h => hg.2 (.inr h), fun h => (hg.1 h).resolve_left heA⟩
          clear hg heA
          have hcut : ∀ W : World, (Instr.slice 30 (.slice AAll RAll.length cAll) none (some (.int .i64 (RA.length : Int))) none).run Try.prog W = .ok (.slice AAll RA.length cAll) W := by
            intro W
            obtain ⟨i0, hi0, hzz⟩ := Option.map_eq_some_iff.1 info9
            have h := cut_to (P := Try.prog) 30 9 .i64 Try.underlying30 hi0 AAll RAll.length cAll (RA.length : Int) (Int.natCast_nonneg _) (by omega) hcAll W
            rwa [Int.toNat_natCast] at h
          have hCt : Kd.string.C wr AAll RA.length RA := by
            have h := Kd.C_take (k := Kd.string) (Kd.C_below HAll.out hbw) (m := RA.length) (by omega)
            have e : RAll.take RA.length = RA := by rw [hAll2.out, List.take_left]
            rwa [e] at h
          have hlt1 : decide ((RAll.length : Int) < (RA.length : Int)) = false := decide_eq_false (by omega)
          have hltn : decide (RAll.length < RA.length) = false := decide_eq_false (by omega)
          have hcT : RA.length ≤ cAll := Nat.le_trans hal hcAll
          go_wp2_with (first | (go_at_call 23; refine (bad_calls _ _).mono ?_; rintro e w' ⟨rfl, hw'⟩; rw [hw']; clear hw') | (go_at_call 20; refine (brickyardref16_Texts.calls kt AAll cAll RA AA cA RA true wr hCt hcT (Kd.C_below HA.out hbw) hcA HKT.out).mono ?_; rintro e w' ⟨rfl, ⟨nt, rfl⟩⟩))
          have hbT := hbw.trans ((pw_below_drewN (Below.refl wr.heap.size wr) nt).mono hbw.size)
          obtain ⟨wT, hwT⟩ : ∃ wT, wT = wr.drewN nt := ⟨_, rfl⟩
          rw [← hwT] at hbT
          try rw [← hwT]
          clear hcut hCt hwT
          go_loopg [21, 142] (RB.length + 1) (fun n nv iv wq => ∃ i : Nat, iv = .int .i64 (i : Int) ∧ nv = .int .i64 ((RA.length + ((RB.take i).filter (fun x => !inS RA x)).length : Nat) : Int) ∧ Aside0 (i + n = RB.length + 1 ∧ i ≤ RB.length) ∧ Aside0 (Below W9.heap.size W9 wq))
          case atStart => exact ⟨0, rfl, rfl, ⟨Nat.zero_add _, Nat.zero_le _⟩, ⟨hbT⟩⟩
          case round =>
            obtain ⟨i, rfl, rfl, ⟨hn, hil⟩, ⟨hbq⟩⟩ := hrel
            clear hbT
            by_cases c1 : i < RB.length
            case neg =>
              have c1b : decide ((i : Int) < (RB.length : Int)) = false := decide_eq_false (by omega)
              have hend : ((((RA.length + ((RB.take i).filter (fun x => !inS RA x)).length : Nat) : Int)) == (RAll.length : Int)) = true := by
                rw [List.take_of_length_le (by omega), hAll2.out, List.length_append]; simp
              obtain ⟨cnt, hcnt⟩ : ∃ cnt, ((RA.length + ((RB.take i).filter (fun x => !inS RA x)).length : Nat) : Int) = cnt := ⟨_, rfl⟩
              rw [hcnt] at hend
              try rw [hcnt]
              clear hcnt
              go_wp2
              go_ret
              exact ⟨by first | rfl | rw [hend], below_then hb9 hb9.size hbq⟩
            have c1b : decide ((i : Int) < (RB.length : Int)) = true := decide_eq_true (by omega)
            obtain ⟨adb, rfl, hcell⟩ := Kd.at_string (Kd.C_below HB.out hbq) (i : Int) (Int.natCast_nonneg _) (by omega)
            rw [Int.toNat_natCast] at hcell
            have hx : rdOf ByteArray.empty RB (i : Int) = RB[i] := by
              unfold rdOf; rw [Int.toNat_natCast, List.getD_eq_getElem?_getD, List.getElem?_eq_getElem c1]; rfl
            rw [hx] at hcell
            obtain ⟨kh, hkh⟩ := ev_some (has_ev RA RB[i] (by omega))
            have hfl := filt_step (fun x => !inS RA x) RB i c1 (n := RA.length)
            have hat := filt_at RA (fun x => !inS RA x) RB i c1
            rw [← hAll2.out] at hat
            have hcle := filt_le RA (fun x => !inS RA x) RB i
            rw [← hAll2.out] at hcle
            obtain ⟨cnt, hcnt⟩ : ∃ cnt, RA.length + ((RB.take i).filter (fun x => !inS RA x)).length = cnt := ⟨_, rfl⟩
            rw [hcnt] at hfl hat hcle
            try rw [hcnt]
            have HKH := Aside0.mk hkh
            have HFL := Aside0.mk hfl
            clear hx hkh hfl hcnt
            by_cases c2 : inS RA RB[i] = true
            case pos =>
              rw [c2] at HKH
              have hq := HFL.out
              rw [if_neg (by rw [c2]; decide)] at hq
              have HQ := Aside0.mk hq
              clear hat HFL hq
              go_wp2_with (first | (go_at_call 22; refine (brickyardlaw16_has.calls kh AA cA RA RB[i] true wr (Kd.C_below HA.out hbq) hcA HKH.out).mono ?_; rintro e w' ⟨rfl, ⟨nt, rfl⟩⟩))
              go_roundg (gk - 1)
              case measure => omega
              case rel => exact ⟨i + 1, by first | rfl | (rw [w64_ (by omega) (by omega)]; rfl) | simp, by rw [HQ.out], ⟨by omega, by omega⟩, ⟨hbq.trans ((pw_below_drewN (Below.refl wr.heap.size wr) nt).mono hbq.size)⟩⟩
            case neg =>
              have c2 : inS RA RB[i] = false := by simpa using c2
              rw [c2] at HKH
              have hq := HFL.out
              rw [if_pos (by rw [c2]; decide)] at hq
              obtain ⟨hcl, hce⟩ := hat (by rw [c2]; rfl)
              obtain ⟨ada, hAA, hcellA⟩ := Kd.at_string (Kd.C_below HAll.out hbq) (cnt : Int) (Int.natCast_nonneg _) (by omega)
              rw [Int.toNat_natCast] at hcellA
              have hxa : rdOf ByteArray.empty RAll (cnt : Int) = RB[i] := by
                unfold rdOf; rw [Int.toNat_natCast, List.getD_eq_getElem?_getD, hce]; rfl
              rw [hxa] at hcellA
              subst hAA
              have hge : decide ((RAll.length : Int) ≤ (cnt : Int)) = false := decide_eq_false (by omega)
              have hge2 : decide ((cnt : Int) ≥ (RAll.length : Int)) = false := decide_eq_false (by omega)
              obtain ⟨s, hs⟩ : ∃ s, RB[i] = s := ⟨_, rfl⟩
              rw [hs] at hcell hcellA HKH
              have hss : (s.toList == s.toList) = true := beq_self_eq_true _
              have HQ := Aside0.mk hq
              have HCE := Aside0.mk hcl
              clear HFL hq hce hxa hs c2 hat
              have hcl2 := HCE.out
              go_wp2_with (first | (go_at_call 22; refine (brickyardlaw16_has.calls kh AA cA RA s false wr (Kd.C_below HA.out hbq) hcA HKH.out).mono ?_; rintro e w' ⟨rfl, ⟨nt, rfl⟩⟩))
              go_roundg (gk - 1)
              case measure => omega
              case rel => exact ⟨i + 1, by first | rfl | (rw [w64_ (by omega) (by omega)]; rfl) | simp, by first | (rw [HQ.out]; rfl) | (rw [HQ.out]; simp) | (rw [HQ.out, w64_ (by omega) (by omega)]; rfl), ⟨by omega, by omega⟩, ⟨hbq.trans ((pw_below_drewN (Below.refl wr.heap.size wr) nt).mono hbq.size)⟩⟩
      have c1b : decide ((i : Int) < (RC.length : Int)) = true := decide_eq_true (by omega)
      obtain ⟨adc, rfl, hcell⟩ := Kd.at_string (Kd.C_below HCC.out hbw) (i : Int) (Int.natCast_nonneg _) (by omega)
      rw [Int.toNat_natCast] at hcell
      have hx : rdOf ByteArray.empty RC (i : Int) = RC[i] := by
        unfold rdOf; rw [Int.toNat_natCast, List.getD_eq_getElem?_getD, List.getElem?_eq_getElem c1']; rfl
      rw [hx] at hcell
      have hin := (inS_iff _ _).2 (HMEM.out _ (List.getElem_mem c1'))
      have hev := has_ev RAll RC[i] (by omega)
      rw [hin] at hev
      obtain ⟨kh, hkh⟩ := ev_some hev
      have HKH := Aside0.mk hkh
      clear hx hin hev hkh
      go_wp2_with (first | (go_at_call 22; refine (brickyardlaw16_has.calls kh AAll cAll RAll RC[i] true wr (Kd.C_below HAll.out hbw) hcAll HKH.out).mono ?_; rintro e w' ⟨rfl, ⟨nt, rfl⟩⟩))
      go_roundg (gk - 1)
      case measure => omega
      case rel => exact ⟨i + 1, by first | rfl | (rw [w64_ (by omega) (by omega)]; rfl) | simp, ⟨by omega, by omega⟩, ⟨hbw.trans ((pw_below_drewN (Below.refl wr.heap.size wr) nt).mono hbw.size)⟩⟩
end Go.Proofs.Ytahdgaaedilcmaa.P
