/- The document's tree: Since. -/
import Derived.Test.YtkldaghhfnpcjaaGRefX
namespace Go.Proofs.Ytkldaghhfnpcjaa.P
open Go.RowKit Go.Maps Go.Proofs.YtkldaghhfnpcjaaW.PrintWords Go.Proofs.YtkldaghhfnpcjaaW.PrintLast Go.Proofs.YtkldaghhfnpcjaaW.PrintMore Go.Proofs.Ytkldaghhfnpcjaa.Pl
set_option linter.unusedVariables false
set_option linter.unusedSimpArgs false
/-- where a text stands, or would stand -/
def iat : List ByteArray → ByteArray → Nat
  | [], _ => 0
  | y :: t, x => if ltB y x then iat t x + 1 else 0
theorem iat_le (l : List ByteArray) (x : ByteArray) : iat l x ≤ l.length := by
  induction l with
  | nil => simp [iat]
  | cons y t ih => rw [iat]; split <;> simp <;> omega
theorem iat_lt {l : List ByteArray} {x : ByteArray} : ∀ j, j < iat l x → ltB (l.getD j ByteArray.empty) x := by
  induction l with
  | nil => intro j h; simp [iat] at h
  | cons y t ih =>
    intro j h
    rw [iat] at h
    split at h
    · rename_i hlt
      cases j with
      | zero => exact hlt
      | succ j => exact ih j (by omega)
    · omega
theorem iat_not {l : List ByteArray} {x : ByteArray} (h : iat l x < l.length) : ¬ ltB (l.getD (iat l x) ByteArray.empty) x := by
  induction l with
  | nil => simp at h
  | cons y t ih =>
    by_cases hlt : ltB y x
    · have e : iat (y :: t) x = iat t x + 1 := by rw [iat, if_pos hlt]
      rw [e] at h ⊢
      exact ih (by simpa using h)
    · have e : iat (y :: t) x = 0 := by rw [iat, if_neg hlt]
      rw [e]
      exact hlt
theorem ins_iat (l : List ByteArray) (x : ByteArray) : ins x l = if iat l x < l.length ∧ l.getD (iat l x) ByteArray.empty = x then l else l.take (iat l x) ++ x :: l.drop (iat l x) := by
  induction l with
  | nil => simp [ins, iat]
  | cons y t ih =>
    by_cases hlt : ltB y x
    · have e : iat (y :: t) x = iat t x + 1 := by rw [iat, if_pos hlt]
      rw [ins, if_pos hlt, ih, e]
      by_cases h2 : iat t x < t.length ∧ t.getD (iat t x) ByteArray.empty = x
      · rw [if_pos h2, if_pos ⟨by simp; omega, h2.2⟩]
      · rw [if_neg h2, if_neg (fun h => h2 ⟨by have := h.1; simp at this; omega, h.2⟩)]
        simp
    · have e : iat (y :: t) x = 0 := by rw [iat, if_neg hlt]
      rw [ins, if_neg hlt, e]
      by_cases h2 : y = x
      · rw [if_pos h2, if_pos ⟨by simp, h2⟩]
      · rw [if_neg h2, if_neg (fun h => h2 h.2)]
        simp
theorem srt_snoc (l : List ByteArray) (x : ByteArray) : srt (l ++ [x]) = ins x (srt l) := by
  unfold srt
  rw [List.foldl_append]
  rfl
theorem ins_len (x : ByteArray) (l : List ByteArray) : (ins x l).length ≤ l.length + 1 := by
  induction l with
  | nil => simp [ins]
  | cons y t ih =>
    rw [ins]
    split
    · simp; omega
    · split <;> simp
theorem srt_len (l : List ByteArray) : (srt l).length ≤ l.length := by
  have : ∀ l acc : List ByteArray, (l.foldl (fun a x => ins x a) acc).length ≤ acc.length + l.length := by
    intro l
    induction l with
    | nil => intro acc; simp
    | cons x t ih =>
      intro acc
      rw [List.foldl_cons]
      have h1 := ih (ins x acc)
      have h2 := ins_len x acc
      simp
      omega
  simpa [srt] using this l []
/-- append(l, r...) of a row of texts -/
theorem txt_rows {W : World} {base m c : Nat} {A : Option Addr} {v : Value} {xs ys : List ByteArray} {s y : Operand} {ops : Array Oper} {rest : List Oper} {o : Oper} {a : Act} {Q : Exit → Act → World → Prop}
    (hgd : o.guard = none) (ho : o.op = .call { callee := .builtin .append, args := #[s, y], argTypes := #[31, 31] }) (hs : a.eval s = v) (hy : a.eval y = .slice A m c)
    (hR : Kd.R Kd.string 9 W base (fun _ => True) v xs) (hC : Kd.string.C W A m ys) (hbase : base ≤ W.heap.size) (hl : (xs.length + m) * 16 ≤ 140737488355328)
    (h : ∀ v1 w1, Kd.R Kd.string 9 w1 base (fun _ => True) v1 (xs ++ ys) → W.grownBy w1 v.ownBlock → wpList Try.prog ops Q rest (a.put o.dst v1) w1) : wpList Try.prog ops Q (o :: rest) a W :=
  Kd.R_append_rows (P := Try.prog) Kd.string (Rr := Kd.string.K W) (w0 := W) (W := W) base hgd s y 31 9 (.string ⟨#[]⟩) 16 ho Try.underlying31 info9 rfl (by decide) (by omega)
    v xs ys A m c (fun _ => True) (fun _ => False) hs hy hR hC (fun x cs hc => hc) (fun _ hk => hk.elim) (fun k hk => trivial) (Below.refl _ _) hbase hl
    (fun v1 w1 h1 hbl hg hat => h v1 w1 h1 hg)
section
variable {w : World} {base r : Nat} {ok : Nat → Prop} {S : TS}
set_option maxRecDepth 100000 in
set_option maxHeartbeats 4000000 in
theorem rsince_calls (h : RMem w base ok r S) (hcs : S.cs.length ≤ 1000000) (mark : Int) :
    Calls Try.prog 34 #[.pointer (some ⟨r, 0, none⟩), .int .i64 mark] w (Tells w (sinceT S mark)) := by
  have hrlt := (h.bound r h.own).2
  obtain ⟨_, _, A, c, _, _, _, c1, hc, hC⟩ := h.cells
  obtain ⟨N, hN⟩ : ∃ N, S.cs.length = N := ⟨_, rfl⟩
  rw [hN] at c1 hc hC hcs
  have HC := Aside0.mk (And.intro hC (And.intro c1 hrlt))
  clear h hC hrlt
  by_cases h1 : mark < 0
  · have HE := Aside0.mk (show sinceT S mark = ([], false) from by unfold sinceT; rw [if_neg (by omega)])
    have k1 : decide (mark < 0) = true := decide_eq_true h1
    clear hN
    go_enter Try.func34, Try.ntmps34
    go_wp2_with fail
    go_ret2
    exact ⟨_, by rw [HE.out]; rfl, by rw [HE.out]; exact Kd.R_nil _ _ _ _ _, Below.refl _ _⟩
  have k1 : decide (mark < 0) = false := decide_eq_false h1
  by_cases h2 : (N : Int) < mark
  · have HE := Aside0.mk (show sinceT S mark = ([], false) from by unfold sinceT; rw [if_neg (by omega)])
    have k2 : decide ((N : Int) < mark) = true := decide_eq_true h2
    clear hN
    go_enter Try.func34, Try.ntmps34
    go_wp2_with fail
    go_ret2
    exact ⟨_, by rw [HE.out]; rfl, by rw [HE.out]; exact Kd.R_nil _ _ _ _ _, Below.refl _ _⟩
  have k2 : decide ((N : Int) < mark) = false := decide_eq_false h2
  have wsub : wrap64 ((N : Int) - mark) = (N : Int) - mark := w64_ (by omega) (by omega)
  by_cases h3 : 32 < (N : Int) - mark
  · have HE := Aside0.mk (show sinceT S mark = ([], false) from by unfold sinceT; rw [if_neg (by omega)])
    have k3 : decide (32 < (N : Int) - mark) = true := decide_eq_true h3
    clear hN
    go_enter Try.func34, Try.ntmps34
    go_wp2_with fail
    go_ret2
    exact ⟨_, by rw [HE.out]; rfl, by rw [HE.out]; exact Kd.R_nil _ _ _ _ _, Below.refl _ _⟩
  have k3 : decide (32 < (N : Int) - mark) = false := decide_eq_false h3
  obtain ⟨mk, rfl⟩ : ∃ mk : Nat, mark = mk := ⟨mark.toNat, by omega⟩
  have HE := Aside0.mk (show sinceT S (mk : Int) = (srt (S.cs.drop mk), true) from by unfold sinceT; rw [if_pos (by omega)]; rfl)
  have HN := Aside0.mk hN
  have hmk : mk ≤ N := by omega
  have hmk2 : N ≤ mk + 32 := by omega
  have k2n : decide (N < mk) = false := decide_eq_false (by omega)
  clear hN h1 h2 h3 wsub
  go_enter Try.func34, Try.ntmps34
  go_wp2_with fail
  have hB0 := Below.refl w.heap.size w
  have hR0 : Kd.R Kd.string 9 w w.heap.size (fun _ => True) (.slice none 0 0) (srt ((S.cs.drop mk).take (mk - mk))) := by rw [Nat.sub_self, List.take_zero]; exact Kd.R_nil _ _ _ _ _
  go_loopg [6, 7] (N - mk + 1) (fun n v6 kv wr => ∃ k : Nat, kv = .int .i64 (k : Int) ∧ Aside0 (mk ≤ k ∧ k + n = N + 1) ∧ Aside0 (Below w.heap.size w wr) ∧ Aside0 (Kd.R Kd.string 9 wr w.heap.size (fun _ => True) v6 (srt ((S.cs.drop mk).take (k - mk)))))
  case atStart => exact ⟨mk, rfl, ⟨Nat.le_refl _, by omega⟩, ⟨hB0⟩, ⟨hR0⟩⟩
  case round =>
    obtain ⟨k, rfl, ⟨hk1, hk2⟩, HBW, HR⟩ := hrel
    clear hB0 hR0
    have c1 := (HBW.out.cell (p := ⟨r, 1, none⟩) HC.out.2.2).trans HC.out.2.1
    obtain ⟨A6, c6, rfl⟩ := Kd.R_slice HR.out
    by_cases g1 : k < N
    case neg =>
      have c1b : decide ((k : Int) < (N : Int)) = false := decide_eq_false (by omega)
      have HF := Aside0.mk (And.intro HR.out HBW.out)
      go_wp2_with fail
      go_ret2
      have e : srt ((S.cs.drop mk).take (k - mk)) = srt (S.cs.drop mk) := by rw [List.take_of_length_le (by rw [List.length_drop, HN.out]; omega)]
      refine ⟨_, by rw [HE.out]; rfl, ?_, HF.out.2⟩
      rw [HE.out]
      show Kd.R Kd.string 9 wr w.heap.size (fun _ => True) _ (srt (S.cs.drop mk))
      rw [← e]
      exact HF.out.1
    have c1b : decide ((k : Int) < (N : Int)) = true := decide_eq_true (by omega)
    have hkl : k < S.cs.length := by rw [HN.out]; exact g1
    have htk : (S.cs.drop mk).take (k + 1 - mk) = (S.cs.drop mk).take (k - mk) ++ [S.cs[k]] := by
      rw [show k + 1 - mk = (k - mk) + 1 by omega, List.take_succ_eq_append_getElem (by rw [List.length_drop]; omega), List.getElem_drop]
      congr 2
      simp only [show mk + (k - mk) = k by omega]
    obtain ⟨x, hx⟩ : ∃ x, S.cs[k] = x := ⟨_, rfl⟩
    have htk2 : srt ((S.cs.drop mk).take (k + 1 - mk)) = ins x (srt ((S.cs.drop mk).take (k - mk))) := by rw [htk, srt_snoc, hx]
    have hxl : (srt ((S.cs.drop mk).take (k - mk))).length ≤ 32 := Nat.le_trans (srt_len _) (by rw [List.length_take]; omega)
    obtain ⟨ad, eA, hcx⟩ := Kd.at_string (Kd.C_below HC.out.1 HBW.out) (k : Int) (by omega) (by omega)
    subst eA
    have hrd : rdOf ByteArray.empty S.cs (k : Int) = x := by
      unfold rdOf
      rw [Int.toNat_natCast, List.getD_eq_getElem?_getD, List.getElem?_eq_getElem hkl, ← hx]
      rfl
    rw [hrd, Int.toNat_natCast] at hcx
    obtain ⟨xs, hxs⟩ : ∃ xs, srt ((S.cs.drop mk).take (k - mk)) = xs := ⟨_, rfl⟩
    rw [hxs] at HR htk2 hxl ⊢
    have HTK := Aside0.mk htk2
    have i0 : (0 : Int) ≤ (k : Int) := by omega
    have i1 : (k : Int) < (N : Int) := by omega
    clear hxs hx hrd htk htk2 hkl
    obtain ⟨f, hfe⟩ : ∃ f : Int, f = (iat xs x : Int) := ⟨_, rfl⟩
    have hfl : f ≤ (xs.length : Int) := by have := iat_le xs x; omega
    have hlt : ∀ i : Int, 0 ≤ i → i < f → Op.bytesLess (rdOf ByteArray.empty xs i).toList x.toList = true := fun i h0 h1 => by
      rw [less_eq, decide_eq_true_iff]
      exact iat_lt i.toNat (by omega)
    have hge : f < (xs.length : Int) → Op.bytesLess (rdOf ByteArray.empty xs f).toList x.toList = false := fun h1 => by
      rw [less_eq, decide_eq_false_iff_not, hfe]
      have := iat_not (l := xs) (x := x) (by omega)
      unfold rdOf
      rwa [Int.toNat_natCast]
    have hins : ins x xs = if f < (xs.length : Int) ∧ rdOf ByteArray.empty xs f = x then xs else xs.take f.toNat ++ x :: xs.drop f.toNat := by
      rw [ins_iat, hfe]
      unfold rdOf
      rw [Int.toNat_natCast]
      by_cases h1 : iat xs x < xs.length ∧ xs.getD (iat xs x) ByteArray.empty = x
      · rw [if_pos h1, if_pos ⟨by omega, h1.2⟩]
      · rw [if_neg h1, if_neg (fun h => h1 ⟨by omega, h.2⟩)]
    have hf0 : 0 ≤ f := by omega
    have HX := Aside0.mk (And.intro hlt (And.intro hge hins))
    have hCx := (Kd.R_reads HR.out)
    obtain ⟨A6', c6', e6, hlc, hCx⟩ := hCx
    injection e6 with e6 e7 e8
    subst e6 e8
    have HCX := Aside0.mk hCx
    clear hfe hlt hge hins hCx e7
    obtain ⟨n0, hn0⟩ : ∃ n0, n0 = gk := ⟨_, rfl⟩
    go_wp2_with fail
    go_loopg [9] (xs.length + 1) (fun n v9 wr2 => ∃ i : Int, v9 = .int .i64 i ∧ Aside0 (0 ≤ i ∧ i ≤ f ∧ i + n = xs.length + 1) ∧ wr2 = wr)
    case atStart => exact ⟨0, rfl, ⟨by omega, by omega, by omega⟩, rfl⟩
    case round =>
      obtain ⟨i, rfl, ⟨j0, j1, j2⟩, rfl⟩ := hrel
      by_cases d1 : i < f
      · have k1 : decide (i < (xs.length : Int)) = true := decide_eq_true (by omega)
        obtain ⟨ad6, rfl, x0⟩ := Kd.at_string HCX.out i j0 (by omega)
        have hb := HX.out.1 i j0 d1
        have p1 : i < (xs.length : Int) := by omega
        have wi : wrap64 (i + 1) = i + 1 := w64_ (by omega) (by omega)
        go_wp2_with fail
        go_roundg (gk - 1)
        case measure => omega
        case rel => exact ⟨i + 1, by first | rfl | rw [wi], ⟨by omega, by omega, by omega⟩, rfl⟩
      · obtain rfl : i = f := by omega
        clear d1 j1
        by_cases d2 : i < (xs.length : Int)
        · have k1 : decide (i < (xs.length : Int)) = true := decide_eq_true d2
          obtain ⟨ad6, rfl, x0⟩ := Kd.at_string HCX.out i j0 d2
          have hb := HX.out.2.1 d2
          by_cases d3 : rdOf ByteArray.empty xs i = x
          · have ce : ((rdOf ByteArray.empty xs i).toList == x.toList) = true := by rw [d3]; exact beq_self_eq_true _
            have HI := Aside0.mk (HX.out.2.2.trans (if_pos ⟨d2, d3⟩))
            clear d3
            go_wp2_with fail
            go_roundg (n0 - 1)
            case measure => omega
            case rel => exact ⟨k + 1, by first | rfl | (rw [w64_ (by omega) (by omega)]; rfl) | simp, ⟨by omega, by omega⟩, HBW, ⟨by rw [HTK.out, HI.out]; exact HR.out⟩⟩
          have ce : ((rdOf ByteArray.empty xs i).toList == x.toList) = false := beq_eq_false_iff_ne.mpr (fun e => d3 (L_inj (by rw [← toList_L, ← toList_L, e])))
          have HI := Aside0.mk (HX.out.2.2.trans (if_neg (fun h => d3 h.2)))
          clear d3
          obtain ⟨i9, hi9, _, s9, _⟩ := info_parts info9
          have hcut1 := cut_to (P := Try.prog) 31 9 .i64 Try.underlying31 hi9 (some ad6) xs.length c6 i j0 hfl hlc
          have hcut2 := cut_from (P := Try.prog) 31 9 .i64 Try.underlying31 hi9 1 s9 (some ad6) xs.length c6 i j0 hfl
          have hct := Kd.C_take (m := i.toNat) HCX.out (by omega)
          rw [show (xs.take i.toNat).length = i.toNat by rw [List.length_take]; omega] at hct
          have hcd := Kd.C_drop (m := i.toNat) HCX.out (by omega) hlc
          rw [List.length_drop, show Kd.string.sz = 1 from rfl] at hcd
          have hdl : xs.length - i.toNat ≤ 32 := by omega
          generalize (if c6 = i.toNat then _ else _) = D at hcut2 hcd
          generalize xs.length - i.toNat = dl at hcut2 hcd hdl
          generalize c6 - i.toNat = dc at hcut2
          have HCT := Aside0.mk hct
          have HCD := Aside0.mk hcd
          have hil : i.toNat ≤ 32 := by omega
          have htl : (xs.take i.toNat).length ≤ 32 := by rw [List.length_take]; omega
          clear hct hcd hi9 s9
          obtain ⟨t7, ht7⟩ : ∃ t7, xs.take i.toNat = t7 := ⟨_, rfl⟩
          rw [ht7] at htl HI
          go_wp2_with (first
            | (at_builtin; refine txt_rows (base := wr.heap.size) (xs := []) rfl rfl rfl rfl (Kd.R_nil _ _ _ _ _) HCT.out (Nat.le_refl _) (by simp; omega) ?_; intro v1 w3 hR3 hg3; rw [List.nil_append, ht7] at hR3; obtain ⟨A7, c7, rfl⟩ := Kd.R_slice hR3; have hb3 := pw_below_grown (Below.refl wr.heap.size wr) _ (Nat.le_refl _) hg3 (fun k hk => by cases hk); have hs3 := hb3.size; have H3 := Aside0.mk (And.intro hR3 hb3); clear hg3 hR3 hb3)
            | (at_builtin; refine txt_push (base := wr.heap.size) rfl rfl rfl rfl rfl H3.out.1 hs3 (by omega) ?_; intro v2 w4 hR4 hg4; have hR4 := Kd.R_mono hR4 (fun _ _ => (trivial : True)); have hb4 := pw_below_grown H3.out.2 _ hs3 hg4 (fun k hk => ((Kd.R_bound H3.out.1).1 k hk).2.1); have hs4 := hb4.size; obtain ⟨t8, ht8⟩ : ∃ t8, t7 ++ [x] = t8 := ⟨_, rfl⟩; have htl8 : t8.length ≤ 33 := (by rw [← ht8, List.length_append, List.length_singleton]; omega); rw [ht8] at hR4; obtain ⟨A8, c8, rfl⟩ := Kd.R_slice hR4; have H4 := Aside0.mk (And.intro hR4 (And.intro hb4 (Kd.C_below HCD.out hb4))); clear hg4 hR4 hb4)
            | (at_builtin; refine txt_rows (base := wr.heap.size) rfl rfl rfl rfl H4.out.1 H4.out.2.2 hs4 (by omega) ?_; intro v3 w5 hR5 hg5; have hb5 := pw_below_grown H4.out.2.1 _ hs4 hg5 (fun k hk => ((Kd.R_bound H4.out.1).1 k hk).2.1); have hR6 := Kd.R_lower (base' := w.heap.size) hR5 HBW.out.size; rw [← ht8, List.append_assoc, List.singleton_append, ← HI.out] at hR6; obtain ⟨A9, c9, rfl⟩ := Kd.R_slice hR6; have H5 := Aside0.mk (And.intro (HBW.out.trans (hb5.mono HBW.out.size)) hR6); clear hg5 hR5 hb5 hR6))
          go_roundg (n0 - 1)
          case measure => omega
          case rel => exact ⟨k + 1, by first | rfl | (rw [w64_ (by omega) (by omega)]; rfl) | simp, ⟨by omega, by omega⟩, ⟨H5.out.1⟩, ⟨by rw [HTK.out]; exact H5.out.2⟩⟩
        · have k1 : decide (i < (xs.length : Int)) = false := decide_eq_false d2
          have HI := Aside0.mk (HX.out.2.2.trans (if_neg (fun h => d2 h.1)))
          obtain ⟨i9, hi9, _, s9, _⟩ := info_parts info9
          have hcut1 := cut_to (P := Try.prog) 31 9 .i64 Try.underlying31 hi9 A6 xs.length c6 i j0 hfl hlc
          have hcut2 := cut_from (P := Try.prog) 31 9 .i64 Try.underlying31 hi9 1 s9 A6 xs.length c6 i j0 hfl
          have hct := Kd.C_take (m := i.toNat) HCX.out (by omega)
          rw [show (xs.take i.toNat).length = i.toNat by rw [List.length_take]; omega] at hct
          have hcd := Kd.C_drop (m := i.toNat) HCX.out (by omega) hlc
          rw [List.length_drop, show Kd.string.sz = 1 from rfl] at hcd
          have hdl : xs.length - i.toNat ≤ 32 := by omega
          generalize (if c6 = i.toNat then _ else _) = D at hcut2 hcd
          generalize xs.length - i.toNat = dl at hcut2 hcd hdl
          generalize c6 - i.toNat = dc at hcut2
          have HCT := Aside0.mk hct
          have HCD := Aside0.mk hcd
          have hil : i.toNat ≤ 32 := by omega
          have htl : (xs.take i.toNat).length ≤ 32 := by rw [List.length_take]; omega
          clear hct hcd hi9 s9
          obtain ⟨t7, ht7⟩ : ∃ t7, xs.take i.toNat = t7 := ⟨_, rfl⟩
          rw [ht7] at htl HI
          go_wp2_with (first
            | (at_builtin; refine txt_rows (base := wr.heap.size) (xs := []) rfl rfl rfl rfl (Kd.R_nil _ _ _ _ _) HCT.out (Nat.le_refl _) (by simp; omega) ?_; intro v1 w3 hR3 hg3; rw [List.nil_append, ht7] at hR3; obtain ⟨A7, c7, rfl⟩ := Kd.R_slice hR3; have hb3 := pw_below_grown (Below.refl wr.heap.size wr) _ (Nat.le_refl _) hg3 (fun k hk => by cases hk); have hs3 := hb3.size; have H3 := Aside0.mk (And.intro hR3 hb3); clear hg3 hR3 hb3)
            | (at_builtin; refine txt_push (base := wr.heap.size) rfl rfl rfl rfl rfl H3.out.1 hs3 (by omega) ?_; intro v2 w4 hR4 hg4; have hR4 := Kd.R_mono hR4 (fun _ _ => (trivial : True)); have hb4 := pw_below_grown H3.out.2 _ hs3 hg4 (fun k hk => ((Kd.R_bound H3.out.1).1 k hk).2.1); have hs4 := hb4.size; obtain ⟨t8, ht8⟩ : ∃ t8, t7 ++ [x] = t8 := ⟨_, rfl⟩; have htl8 : t8.length ≤ 33 := (by rw [← ht8, List.length_append, List.length_singleton]; omega); rw [ht8] at hR4; obtain ⟨A8, c8, rfl⟩ := Kd.R_slice hR4; have H4 := Aside0.mk (And.intro hR4 (And.intro hb4 (Kd.C_below HCD.out hb4))); clear hg4 hR4 hb4)
            | (at_builtin; refine txt_rows (base := wr.heap.size) rfl rfl rfl rfl H4.out.1 H4.out.2.2 hs4 (by omega) ?_; intro v3 w5 hR5 hg5; have hb5 := pw_below_grown H4.out.2.1 _ hs4 hg5 (fun k hk => ((Kd.R_bound H4.out.1).1 k hk).2.1); have hR6 := Kd.R_lower (base' := w.heap.size) hR5 HBW.out.size; rw [← ht8, List.append_assoc, List.singleton_append, ← HI.out] at hR6; obtain ⟨A9, c9, rfl⟩ := Kd.R_slice hR6; have H5 := Aside0.mk (And.intro (HBW.out.trans (hb5.mono HBW.out.size)) hR6); clear hg5 hR5 hb5 hR6))
          go_roundg (n0 - 1)
          case measure => omega
          case rel => exact ⟨k + 1, by first | rfl | (rw [w64_ (by omega) (by omega)]; rfl) | simp, ⟨by omega, by omega⟩, ⟨H5.out.1⟩, ⟨by rw [HTK.out]; exact H5.out.2⟩⟩
end
end Go.Proofs.Ytkldaghhfnpcjaa.P
