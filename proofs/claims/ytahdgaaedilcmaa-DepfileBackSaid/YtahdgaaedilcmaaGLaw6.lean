/- DepfileMerges' own function: the walk. -/
import Derived.Test.YtahdgaaedilcmaaPlMerge
import Derived.Test.YtahdgaaedilcmaaPlDepU
namespace Go.Proofs.Ytahdgaaedilcmaa.P
open Go.RowKit Go.Maps Go.Proofs.YtahdgaaedilcmaaW.PrintWords Go.Proofs.YtahdgaaedilcmaaW.PrintLast Go.Proofs.YtahdgaaedilcmaaW.PrintMore Go.Proofs.Ytahdgaaedilcmaa.Pl
set_option linter.unusedVariables false
set_option linter.unusedSimpArgs false
theorem small_of {l : List S32} (h : tot l < 32768) : Small l ∧ l.length < 32768 := by
  have key : ∀ l : List S32, l.length ≤ tot l ∧ (l.map (·.f1.length)).sum ≤ tot l ∧ ∀ r ∈ l, r.f0.size ≤ tot l ∧ ∀ d ∈ r.f1, d.size ≤ tot l := by
    have keyT : ∀ l : List ByteArray, l.length ≤ totT l ∧ ∀ d ∈ l, d.size ≤ totT l := by
      intro l
      induction l with
      | nil => exact ⟨Nat.le_refl _, fun d h => by cases h⟩
      | cons x l ih =>
        have e : totT (x :: l) = 1 + x.size + totT l := rfl
        rw [e]
        refine ⟨by simp; omega, fun d hd => ?_⟩
        rcases List.mem_cons.1 hd with rfl | hd
        · omega
        · have := ih.2 d hd; omega
    intro l
    induction l with
    | nil => exact ⟨Nat.le_refl _, Nat.le_refl _, fun r h => by cases h⟩
    | cons x l ih =>
      have e : tot (x :: l) = 1 + x.f0.size + totT x.f1 + tot l := rfl
      have hx := keyT x.f1
      rw [e]
      refine ⟨by simp; omega, by simp; omega, fun r hr => ?_⟩
      rcases List.mem_cons.1 hr with rfl | hr
      · exact ⟨by omega, fun d hd => by have := hx.2 d hd; omega⟩
      · have := ih.2.2 r hr
        exact ⟨by omega, fun d hd => by have := this.2 d hd; omega⟩
  have k := key l
  exact ⟨⟨by omega, by omega, fun r hr => ⟨by have := (k.2.2 r hr).1; omega, fun d hd => by have := (k.2.2 r hr).2 d hd; omega⟩⟩, by omega⟩
theorem mergeL_len {l : List S32} (h : Small l) : (mergeL l).length ≤ l.length ∧ ∀ r ∈ mergeL l, r.f1.length ≤ 1000000 := by
  unfold mergeL
  refine ⟨by have := onceGo_len (l.map (·.f0)) []; simp at this ⊢; exact this, fun r hr => ?_⟩
  obtain ⟨n, _, rfl⟩ := List.mem_map.1 hr
  have h1 := onceGo_len (depsOf l n) []
  have h2 := depsOf_len l n
  have h3 := h.2.1
  simp at h1 ⊢
  omega
/-- one list in a row of lists -/
theorem lists_one {w : World} {A : Option Addr} {c : Nat} {l : List S32} {e : TypeId} (hl : l.length ≤ c) (hC : Kd.C k32 w A l.length l) :
    Kd.C (Kd.slice 32 k32) (w.alloc (.cells #[.slice A l.length c] e)) (some ⟨w.heap.size, 0, none⟩) [l].length [l] := by
  refine ⟨rfl, by simp, fun _ => ⟨_, rfl, fun j p hj => ?_⟩⟩
  match j, hj with
  | 0, hj =>
    simp at hj
    subst hj
    refine ⟨[.slice A l.length c], rfl, ⟨A, c, rfl, hl, Kd.C_alloc hC _⟩, fun i u hu => ?_⟩
    match i, hu with
    | 0, hu =>
      simp at hu
      subst hu
      have h1 : (w.alloc (.cells #[.slice A l.length c] e)).cell? ⟨w.heap.size, 0, none⟩ = some (.slice A l.length c) := blk_cell (blk_new w _) 0
      exact h1
section
variable {w wr : World} {n c g : Nat} {out : List S32}
/-- row k's texts; what a store of a text among them leaves -/
theorem RMem.retext (h : RMem w (.slice (some ⟨g, 0, none⟩) n c) out wr) (k : Nat) (hk : k < out.length) : ∃ (AD : Option Addr) (cD : Nat),
    wr.cell? ⟨g, k * 2 + 1, none⟩ = some (.slice AD out[k].f1.length cD) ∧ (0 < out[k].f1.length → ∃ gd, AD = some ⟨gd, 0, none⟩ ∧ ∀ j, j < out[k].f1.length → (∃ u, wr.cell? ⟨gd, j, none⟩ = some (.string u)) ∧ wr.frozen? ⟨gd, j, none⟩ = false ∧
      ∀ x, RMem w (.slice (some ⟨g, 0, none⟩) n c) (out.set k ⟨out[k].f0, out[k].f1.set j x⟩) (wr.setCell ⟨gd, j, none⟩ (.string x))) := by
  obtain ⟨hb, hS⟩ := h
  have hn : out.length = n := (Kd.R_reads' (Kd.S_R hS)).1.symm
  obtain ⟨oki, cs, hcl, hM, hcc, hfr, hoki, hH⟩ := Kd.S_elem hS z32 (k : Int) (Int.natCast_nonneg _) (by omega)
  simp only [Int.toNat_natCast] at *
  have hx : out.getD k z32 = out[k] := by rw [List.getD_eq_getElem?_getD, List.getElem?_eq_getElem hk]; rfl
  rw [hx] at hM
  obtain ⟨vD, rfl, hR⟩ := k32_openM hM
  obtain ⟨AD, cD, rfl⟩ := Kd.R_slice hR
  refine ⟨AD, cD, hcc 1 _ rfl, fun hp => ?_⟩
  obtain ⟨ad, rfl, _⟩ := (Kd.R_reads' hR).2.2.2.2 hp
  obtain ⟨gd, rfl⟩ := Kd.R_head hR
  refine ⟨gd, rfl, fun j hj => ?_⟩
  obtain ⟨ad2, he, hcell⟩ := Kd.at_string (Kd.R_reads' hR).2.2 (j : Int) (Int.natCast_nonneg _) (by omega)
  obtain rfl := Option.some.inj he
  rw [Int.toNat_natCast] at hcell
  obtain ⟨_, _, _, _, hfj⟩ := Kd.R_elem hR ByteArray.empty (j : Int) (Int.natCast_nonneg _) (by omega)
  refine ⟨⟨_, by simpa [Addr.add_lit] using hcell⟩, by have h := hfj 0; rw [Int.toNat_natCast, show j * Kd.string.sz + 0 = j by show j * 1 + 0 = j; omega] at h; exact h, fun x => ?_⟩
  have hp := Kd.R_put hR (j : Int) x
  rw [Int.toNat_natCast] at hp
  have hgd : w.heap.size ≤ gd := Kd.R_base hR gd (by simp [Value.ownBlock])
  have hH1 := Kd.H_grown hH hp.2 (fun q hq => hR.1 q (by simpa [Value.ownBlock] using hq))
  have hMx : k32.M (wr.setCell ⟨gd, j, none⟩ (.string x)) w.heap.size oki ⟨out[k].f0, out[k].f1.set j x⟩ [.string out[k].f0, .slice (some ⟨gd, 0, none⟩) out[k].f1.length cD] := k32_mkM _ _ _ ⟨out[k].f0, out[k].f1.set j x⟩ hp.1
  have hfin := Kd.H_back hH1 hMx (fun _ h => h)
  rw [Int.toNat_natCast] at hfin
  exact ⟨hb.setCell (p := ⟨gd, j, none⟩) hgd _, hfin⟩
end
/-- xs[i+1:], of rules -/
theorem rules_cut6 (A : Option Addr) (n c i : Nat) (hj : i + 1 ≤ n) : ∃ A' : Option Addr, (∀ W : World, (Instr.slice 23 (.slice A n c) (some (.int .i64 ((i : Int) + 1))) none none).run Try.prog W = .ok (.slice A' (n - (i + 1)) (c - (i + 1))) W) ∧
    ∀ (w' : World) (xs : List S32), xs.length = n → n ≤ c → Kd.C k32 w' A n xs → Kd.C k32 w' A' (xs.drop (i + 1)).length (xs.drop (i + 1)) := by
  obtain ⟨i0, hi0, hzz⟩ := Option.map_eq_some_iff.1 info32
  simp only [Prod.mk.injEq] at hzz
  have h := cut_from (P := Try.prog) 23 32 .i64 Try.underlying23 hi0 2 hzz.2.1 A n c ((i : Int) + 1) (by omega) (by omega)
  rw [show ((i : Int) + 1).toNat = i + 1 by omega] at h
  refine ⟨_, h, fun w' xs hx hc hC => ?_⟩
  subst hx
  exact Kd.C_drop hC hj hc
attribute [local go_sem high] eqA26
set_option maxHeartbeats 4000000 in
set_option maxRecDepth 1000000 in
theorem law6_walk (A0 : Option Addr) (c0 : Nat) (l0 : List S32) (w : World) (hr0 : Kd.C k32 w A0 l0.length l0) (hc0 : l0.length ≤ c0) (hRB : RB l0) :
    Calls Try.prog 6 #[.slice A0 l0.length c0] w fun e w' => e = .returned (.bool true) ∧ Below w.heap.size w w' := by
  obtain ⟨kw, hkw⟩ := ev_some works_ev
  obtain ⟨b, hbe, hbt⟩ := great_ev [l0] (by simp) (fun l hl => by rw [List.mem_singleton] at hl; rw [hl]; exact hRB)
  obtain ⟨kg, hkg⟩ := ev_some hbe
  have HW := Aside0.mk hkw
  have HG := Aside0.mk hkg
  have HC := Aside0.mk hr0
  clear hkw hkg hr0 hbe
  go_enter Try.func6, Try.ntmps6
  go_wp2_with fail
  refine (brickyardlaw16_works.calls kw true _ HW.out).mono ?_
  rintro e w1 ⟨rfl, hb1⟩
  have hs1 := hb1.size
  go_wp2_with fail
  have hCg := lists_one (e := 23) hc0 (Kd.C_below HC.out hb1)
  have hbg : Below w.heap.size w (w1.alloc (.cells #[.slice A0 l0.length c0] 23)) := hb1.alloc hs1 _
  --WALK
  refine (brickyardlaw16_great.calls kg (some ⟨w1.heap.size, 0, none⟩) 1 [l0] b _ hCg (Nat.le_refl _) HG.out).mono ?_
  rintro e w2 ⟨rfl, ⟨nd, rfl⟩⟩
  have hb2 := pw_below_drewN hbg nd
  cases b with
  | true =>
    go_wp2
    go_ret
    exact ⟨rfl, hb2⟩
  | false =>
    have htot := hbt rfl
    have htot1 : tot l0 < 32768 := by have : totL [l0] = tot l0 + 0 := rfl; omega
    obtain ⟨hsm, hll⟩ := small_of htot1
    obtain ⟨hml, hmd⟩ := mergeL_len hsm
    have hsame : ∀ j : Nat, ∃ k, brickyardref16_Same.f k ((mergeL l0).drop j) ((mergeL l0).drop j) = some true := fun j =>
      ev_some (same_refl _ (by rw [List.length_drop]; omega) (fun r hr => by have := hmd r (List.mem_of_mem_drop hr); omega))
    obtain ⟨k0, hk0⟩ := hsame 0
    rw [List.drop_zero] at hk0
    have hme := merge_eq l0
    obtain ⟨T, hT⟩ : ∃ T, mergeL l0 = T := ⟨_, rfl⟩
    rw [hT] at hsame hk0 hme hml
    have HT := Aside0.mk hT
    have HME := Aside0.mk hme
    have HS := Aside0.mk hsame
    have H0 := Aside0.mk hk0
    have HSM := Aside0.mk hsm
    clear hsame hk0 hT hme hmd htot hbt
    obtain ⟨W2, hW2⟩ : ∃ W2, W2 = (w1.alloc (.cells #[.slice A0 l0.length c0] 23)).drewN nd := ⟨_, rfl⟩
    rw [← hW2] at hb2
    go_wp2_with fail
    rw [← hW2]
    clear hCg hbg hW2
    refine (ref16_Merge.calls A0 c0 l0 W2 (Kd.C_below HC.out hb2) hc0 HSM.out).mono ?_
    rintro e w3 ⟨vB, rfl, hSB, hbB⟩
    rw [HME.out] at hSB
    have hb3 := below_then hb2 hb2.size hbB
    obtain ⟨AB, cB, rfl⟩ := Kd.R_slice (Kd.S_R hSB)
    have hrB := Kd.R_reads' (Kd.S_R hSB)
    have HCB := Aside0.mk hrB.2.2
    have hcB := hrB.2.1
    clear hSB hrB
    go_wp2_with fail
    refine (depfile_Merge.calls A0 c0 l0 w3 (Kd.C_below HC.out hb3) hc0 HSM.out).mono ?_
    rintro e w4 ⟨vA, rfl, hSA, hbA⟩
    rw [HT.out] at hSA
    obtain ⟨AA, cA, rfl⟩ := Kd.R_slice (Kd.S_R hSA)
    have hM0 : RMem w3 (.slice AA T.length cA) T w4 := ⟨hbA, hSA⟩
    have hrA := Kd.R_reads' (Kd.S_R hSA)
    have hcA := hrA.2.1
    go_wp2_with fail
    refine (brickyardref16_Same.calls k0 AA cA T AB cB T true _ hrA.2.2 hcA (Kd.C_below HCB.out hbA) hcB H0.out).mono ?_
    rintro e w5 ⟨rfl, ⟨nd5, rfl⟩⟩
    have hM1 := hM0.below_ (pw_below_drewN (Below.refl _ _) nd5)
    obtain ⟨W5, hW5⟩ : ∃ W5, W5 = w4.drewN nd5 := ⟨_, rfl⟩
    rw [← hW5] at hM1
    go_wp2_with fail
    rw [← hW5]
    clear hM0 hSA hbA hrA hW5
    go_loopg [5] (T.length + 1) (fun n iv wr => ∃ (i : Nat) (a : List S32), iv = .int .i64 (i : Int) ∧ Aside0 (i + n = T.length + 1 ∧ i ≤ T.length) ∧ Aside0 (a.length = T.length ∧ a.drop i = T.drop i) ∧ Aside0 (RMem w3 (.slice AA T.length cA) a wr))
    case atStart => exact ⟨0, T, rfl, ⟨Nat.zero_add _, Nat.zero_le _⟩, ⟨rfl, rfl⟩, ⟨hM1⟩⟩
    case round =>
      obtain ⟨i, a, rfl, ⟨hn, hil⟩, ⟨hal, had⟩, ⟨hM⟩⟩ := hrel
      clear hM1
      have hbw := below_then hb3 hb3.size hM.1
      by_cases c1 : i < T.length
      case neg =>
        have c1b : decide ((i : Int) < (T.length : Int)) = false := decide_eq_false (by omega)
        go_wp2_with fail
        refine (depfile_Merge.calls A0 c0 l0 wr (Kd.C_below HC.out hbw) hc0 HSM.out).mono ?_
        rintro e w6 ⟨vC, rfl, hSC, hbC⟩
        rw [HT.out] at hSC
        obtain ⟨AC, cC, rfl⟩ := Kd.R_slice (Kd.S_R hSC)
        have hrC := Kd.R_reads' (Kd.S_R hSC)
        have hb6 := below_then hbw hbw.size hbC
        have hb36 := below_then hM.1 hM.1.size hbC
        go_wp2_with fail
        refine (brickyardref16_Same.calls k0 AC cC T AB cB T true _ hrC.2.2 hrC.2.1 (Kd.C_below HCB.out hb36) hcB H0.out).mono ?_
        rintro e w7 ⟨rfl, ⟨nd2, rfl⟩⟩
        have hbF := pw_below_drewN hb6 nd2
        go_wp2_with fail
        go_ret
        exact ⟨rfl, hbF⟩
      have c1b : decide ((i : Int) < (T.length : Int)) = true := decide_eq_true (by omega)
      obtain ⟨g, rfl, hg0, hTl⟩ := hM.head (by omega)
      clear hTl
      have hia : i < a.length := by omega
      obtain ⟨AD, cD, oki, hx0, hx1, hfr, hRD, hput⟩ := hM.lend i hia
      have hal1 : a[i].f1.length ≤ 1000000 := by
        have h := had
        rw [List.drop_eq_getElem_cons hia, List.drop_eq_getElem_cons c1] at h
        injection h with h1 h2
        rw [h1]
        exact (mergeL_len HSM.out).2 _ (by rw [HT.out]; exact List.getElem_mem c1)
      have hvo := hRD.1
      have hBW := hM.1
      obtain ⟨ro, hro⟩ : ∃ ro, a[i] = ro := ⟨_, rfl⟩
      rw [hro] at hx0 hx1 hRD hal1 hvo
      simp only [hro] at hput
      have hkept : ∀ w1 : World, wr.grownBy w1 (Value.slice AD ro.f1.length cD).ownBlock → Kept wr w1 oki ∧ Below w3.heap.size w3 w1 := fun w1 hg =>
        ⟨⟨hg.size, fun q hq hn => hg.block q hq (fun he => hn (hvo q he.symm))⟩, pw_below_grown hBW _ hBW.size hg (fun q hq => by have := Kd.R_base hRD q hq; exact this)⟩
      have HP := Aside0.mk hput
      have HK := Aside0.mk hkept
      have Hal := Aside0.mk hal
      have Had := Aside0.mk had
      clear hput hkept hal had
      go_wp2_with (first | ((with_reducible refine gate_builtin (b := .append) (xs := #[.tmp 32, .tmp 33]) rfl ?_); at_builtin; refine texts_push (W := wr) rfl rfl rfl rfl rfl hRD hBW.size (by omega) ?_; intro v1 w6 hR6 hg6; obtain ⟨A6, c6, rfl⟩ := Kd.R_slice hR6; obtain ⟨hM6, hf6, hi6⟩ := HP.out w6 _ _ hR6 (HK.out w6 hg6).2 (HK.out w6 hg6).1; obtain ⟨u6_, hu6⟩ := Option.isSome_iff_exists.1 hi6))
      have HM6 := Aside0.mk hM6
      clear hM hM6 hx0 hx1 hfr hRD hvo hu6 hi6 hf6 hR6 hg6 hro hBW
      obtain ⟨gO, hgO⟩ : ∃ gO, gO = gk := ⟨_, rfl⟩
      subst hgO
      obtain ⟨m, hm⟩ : ∃ m, (ro.f1 ++ [(⟨#[109, 111, 114, 101]⟩ : ByteArray)]).length = m := ⟨_, rfl⟩
      have hm1 : m ≤ 1000001 := by rw [← hm]; simp; omega
      have Hm := Aside0.mk hm
      obtain ⟨X0, hX0⟩ : ∃ X0, (ro.f1 ++ [(⟨#[109, 111, 114, 101]⟩ : ByteArray)]) = X0 := ⟨_, rfl⟩
      have hX0l : X0.length = ro.f1.length + 1 := by rw [← hX0]; simp
      rw [hX0] at HM6 Hm
      rw [hX0l] at HM6
      clear hX0 hm hX0l
      go_loopg [6] (m + 1) (fun n kv wq => ∃ (k : Nat) (ys : List ByteArray), kv = .int .i64 (k : Int) ∧ Aside0 (k + n = m + 1 ∧ k ≤ m ∧ ys.length = m) ∧ Aside0 (RMem w3 (.slice (some ⟨g, 0, none⟩) T.length cA) (a.set i ⟨ro.f0, ys⟩) wq))
      case atStart => exact ⟨0, X0, rfl, ⟨Nat.zero_add _, Nat.zero_le _, Hm.out⟩, HM6⟩
      case round =>
        obtain ⟨k, ys, rfl, ⟨hk, hkm, hyl⟩, ⟨hMk⟩⟩ := hrel
        clear HM6 Hm
        obtain ⟨AD2, cD2, hy1, hy2⟩ := hMk.retext i (by rw [List.length_set]; exact hia)
        rw [List.getElem_set_self] at hy1
        simp only [List.getElem_set_self, List.set_set] at hy2
        by_cases k1 : k < ys.length
        case neg =>
          have k1b : decide ((k : Int) < (ys.length : Int)) = false := decide_eq_false (by omega)
          have hM2 := hMk
          obtain ⟨ks, hks⟩ := HS.out (i + 1)
          obtain ⟨X, hX⟩ : ∃ X, X = a.set i ⟨ro.f0, ys⟩ := ⟨_, rfl⟩
          rw [← hX] at hM2
          have hXl : X.length = T.length := by rw [hX, List.length_set]; exact Hal.out
          have hXd : X.drop (i + 1) = T.drop (i + 1) := by
            rw [hX, List.drop_set_of_lt (by omega)]
            have h := congrArg (List.drop 1) Had.out
            rwa [List.drop_drop, List.drop_drop] at h
          obtain ⟨A', hsA, hcA'⟩ := rules_cut6 (some ⟨g, 0, none⟩) T.length cA i (by omega)
          obtain ⟨B', hsB, hcB'⟩ := rules_cut6 AB T.length cB i (by omega)
          have hrA := Kd.R_reads' (Kd.S_R hM2.2)
          have hCA := hcA' wr X hXl hcA (by have h := hrA.2.2; rwa [hXl] at h)
          rw [hXd] at hCA
          have hCB := hcB' wr T rfl hcB (Kd.C_below HCB.out hM2.1)
          have hcall : ∀ nd, Calls Try.prog 14 #[.slice A' (T.length - (i + 1)) (cA - (i + 1)), .slice B' (T.length - (i + 1)) (cB - (i + 1))] (wr.drewN nd) fun e w' => e = .returned (.bool true) ∧ Drawn0 (wr.drewN nd) w' := by
            intro nd
            have h := brickyardref16_Same.calls ks A' (cA - (i + 1)) (T.drop (i + 1)) B' (cB - (i + 1)) (T.drop (i + 1)) true (wr.drewN nd) (Kd.C_drewN hCA nd) (by rw [List.length_drop]; omega) (Kd.C_drewN hCB nd) (by rw [List.length_drop]; omega) hks
            rwa [List.length_drop] at h
          have HM2 := Aside0.mk hM2
          have HXl := Aside0.mk hXl
          have HXd := Aside0.mk hXd
          have Hyl := Aside0.mk hyl
          clear hX hXl hXd hM2 hMk hrA hCA hCB hks hcA' hcB' hy2 hyl
          go_wp2_with fail
          go_quiet (first | (go_at_call 14; refine (hcall _).mono ?_; rintro e w9 ⟨rfl, ⟨nd, rfl⟩⟩; (try first | exact ⟨rfl, _, World.drewN_drewN _ _ _⟩ | exact ⟨rfl, _, Eq.trans (World.drewN_drewN _ _ _) (congrArg (World.drewN _) (Nat.add_assoc _ _ _))⟩)))
          go_wp2
          go_roundg (gO - 1)
          case measure => omega
          case rel => exact ⟨i + 1, X, by first | rfl | (simp; done), ⟨by omega, by omega⟩, ⟨HXl.out, HXd.out⟩, ⟨HM2.out.below_ (pw_below_drewN (Below.refl _ _) _)⟩⟩
        have k1b : decide ((k : Int) < (ys.length : Int)) = true := decide_eq_true (by omega)
        obtain ⟨gd, rfl, hst⟩ := hy2 (by omega)
        obtain ⟨⟨u, hu⟩, hfu, hnext⟩ := hst k k1
        have hN := hnext (⟨#[103, 111, 110, 101]⟩ : ByteArray)
        have HN := Aside0.mk hN
        have Hyl := Aside0.mk hyl
        clear hst hnext hN hMk hy2 hyl
        go_wp2
        go_roundg (gk - 1)
        case measure => omega
        case rel => exact ⟨k + 1, ys.set k ⟨#[103, 111, 110, 101]⟩, by first | rfl | (rw [w64_ (by omega) (by omega)]; rfl) | simp, ⟨by omega, by have := Hyl.out; omega, by rw [List.length_set]; exact Hyl.out⟩, HN⟩
end Go.Proofs.Ytahdgaaedilcmaa.P
