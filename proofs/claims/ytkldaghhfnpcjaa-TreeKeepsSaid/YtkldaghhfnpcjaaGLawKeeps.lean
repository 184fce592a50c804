/- TreeKeeps' own function, walked. -/
import Derived.Test.YtkldaghhfnpcjaaGLawPlaysW
import Derived.Test.YtkldaghhfnpcjaaGTwin
import Derived.Test.YtkldaghhfnpcjaaPlKeeps
namespace Go.Proofs.Ytkldaghhfnpcjaa.P
open Go.RowKit Go.Maps Go.Proofs.YtkldaghhfnpcjaaW.PrintWords Go.Proofs.YtkldaghhfnpcjaaW.PrintLast Go.Proofs.YtkldaghhfnpcjaaW.PrintMore Go.Proofs.Ytkldaghhfnpcjaa.Pl
set_option linter.unusedVariables false
set_option linter.unusedSimpArgs false
theorem step_len0 (S : TS) (kd : Int) (a s : ByteArray) : (stepT S kd a s).cs.length ≤ S.cs.length + 1 := step_len S kd a s
set_option maxRecDepth 100000 in
set_option maxHeartbeats 8000000 in
theorem keeps_walk (l : List S28) (A : Option Addr) (c : Nat) (a s : ByteArray) (w : World) (hC : Kd.C k28 w A l.length l) (hc : l.length ≤ c) (hl : l.length ≤ 10000000000000) (hb : ∀ o ∈ l, o.f1.size ≤ 1000000000000000 ∧ o.f2.size ≤ 1000000000000000)
    (ha0 : a.size ≤ maxLen) (hs0 : s.size ≤ maxLen) :
    Calls Try.prog 4 #[.slice A l.length c, .string a, .string s] w fun e w' => e = .returned (.bool true) ∧ Below w.heap.size w w' := by
  obtain ⟨b, hev, hfin⟩ := long_ev l hl hb
  obtain ⟨k, hk⟩ := ev_some hev
  have HC := Aside0.mk (And.intro hC (And.intro hc hfin))
  have hax : a.size ≤ maxLen := ha0
  have ha : a.size ≤ 9223372036854775807 := by unfold maxLen at ha0; omega
  have hs : s.size ≤ 9223372036854775807 := by unfold maxLen at hs0; omega
  clear ha0 hs0
  have HAX := Aside0.mk hax
  clear hev hfin hC hb hax
  go_enter Try.func4, Try.ntmps4
  go_wp2_with fail
  refine (works_calls w).mono ?_
  rintro e w1 ⟨rfl, hB1⟩
  have hlg := brickyardlaw10_long.calls k A c l b w1 (Kd.C_below HC.out.1 hB1) HC.out.2.1 hk
  have H1 := Aside0.mk hB1
  clear hB1 hk
  go_wp2_with fail
  refine hlg.mono ?_
  rintro e w2 ⟨rfl, ⟨n2, rfl⟩⟩
  clear hlg
  have H2 := Aside0.mk (H1.out.trans ((pw_below_drewN (Below.refl _ w1) n2).mono H1.out.size))
  generalize w1.drewN n2 = w2 at *
  cases b with
  | true =>
    go_wp2_with fail
    go_ret
    exact ⟨rfl, H2.out⟩
  | false =>
  by_cases c400 : l.length ≤ 400
  case neg =>
    have k1 : decide ((400 : Int) < (l.length : Int)) = true := decide_eq_true (by omega)
    go_wp2_with fail
    go_ret
    exact ⟨rfl, H2.out⟩
  have k1 : decide ((400 : Int) < (l.length : Int)) = false := decide_eq_false (by omega)
  by_cases cs : s.size ≤ 1048576
  case neg =>
    have k2 : decide ((1048576 : Int) < (s.size : Int)) = true := decide_eq_true (by omega)
    go_wp2_with fail
    go_ret
    exact ⟨rfl, H2.out⟩
  have k2 : decide ((1048576 : Int) < (s.size : Int)) = false := decide_eq_false (by omega)
  go_wp2_with fail
  refine (tnew_calls w2).mono ?_
  rintro e w3 ⟨rfl, hM3, hB3⟩
  have H3 := Aside0.mk (And.intro (tone_new hM3) (And.intro (H2.out.trans (hB3.mono H2.out.size)) hB3.size))
  clear hM3 hB3 k1 k2
  go_wp2_with fail
  go_loopg [45] (l.length + 1) (fun n v45 wr => ∃ (i : Nat) (S : TS), v45 = .int .i64 (i : Int) ∧ Aside0 (i + n = l.length + 1) ∧ Aside0 (TOne (fun _ => False) wr wr w2.heap.size (w2.heap.size + 1) S ∧ S.cs.length ≤ i) ∧ Aside0 (Below w.heap.size w wr))
  case atStart => exact ⟨0, ⟨[], []⟩, rfl, ⟨by omega⟩, ⟨H3.out.1, Nat.le_refl _⟩, ⟨H3.out.2.1⟩⟩
  case round =>
    obtain ⟨i, S, rfl, ⟨hi⟩, HT, HB⟩ := hrel
    have hshort := HC.out.2.2 (by first | trivial | rfl)
    by_cases c1 : i < l.length
    · have k1 : decide ((i : Int) < (l.length : Int)) = true := decide_eq_true (by omega)
      obtain ⟨ad, rfl, x0, x1, x2, x3⟩ := at_T28 (Kd.C_below HC.out.1 HB.out) (i : Int) (by omega) (by omega)
      have hrd : rd_T28 l (i : Int) = l[i]'c1 := by
        unfold rd_T28
        rw [Int.toNat_natCast, List.getD_eq_getElem?_getD, List.getElem?_eq_getElem c1]
        rfl
      have hsz := hshort.2 (l[i]'c1) (List.getElem_mem c1)
      rw [hrd, Int.toNat_natCast] at x0 x1 x2 x3
      obtain ⟨⟨f0, f1, f2, f3⟩, ho⟩ : ∃ o, l[i]'c1 = o := ⟨_, rfl⟩
      rw [ho] at x0 x1 x2 x3 hsz
      have hm1 : f1.size ≤ maxLen := by unfold maxLen; have : f1.size < 1048576 := hsz.1; omega
      have hcs : S.cs.length < 1000000 := by have := HT.out.2; have := hshort.1; omega
      have i0 : (0 : Int) ≤ (i : Int) := by omega
      have i1 : (i : Int) < (l.length : Int) := by omega
      have hba := (Below.refl wr.heap.size wr).alloc (Nat.le_refl _) (.cells #[.int .i64 f0, .string f1, .string f2, .int .i64 f3] 28)
      have HA := Aside0.mk (And.intro (HT.out.1.below hba) (HB.out.trans (hba.mono HB.out.size)))
      have HM := Aside0.mk (And.intro hm1 hcs)
      clear hrd hsz ho hba hshort hm1 hcs
      by_cases c0 : f0 = 0
      · subst c0
        have hwc := TOne.write HA.out.1 f1 f2 HM.out.1 HM.out.2
        go_wp2_with fail
        refine hwc.mono ?_
        rintro e w5 ⟨rfl, hT5, hB5⟩
        clear hwc
        have H6 := Aside0.mk (And.intro hT5 (And.intro (HA.out.2.trans (hB5.mono (Nat.le_trans H2.out.size (Nat.le_refl _)))) (step_len0 S 0 f1 f2)))
        clear hT5 hB5
        go_wp2_with fail
        go_roundg (gk - 1)
        case measure => omega
        case rel => exact ⟨i + 1, _, by first | rfl | (rw [w64_ (by omega) (by omega)]; rfl) | simp, ⟨by omega⟩, ⟨⟨H6.out.1.t.choose, H6.out.1.t.choose_spec.1, fun k hk => hk.elim⟩, Nat.le_trans H6.out.2.2 (Nat.succ_le_succ HT.out.2)⟩, ⟨H6.out.2.1⟩⟩
      by_cases c1' : f0 = 1
      · subst c1'
        have hwc := TOne.remove HA.out.1 f1 HM.out.1 HM.out.2
        go_wp2_with fail
        refine hwc.mono ?_
        rintro e w5 ⟨rfl, hT5, hB5⟩
        clear hwc
        have H6 := Aside0.mk (And.intro hT5 (And.intro (HA.out.2.trans (hB5.mono (Nat.le_trans H2.out.size (Nat.le_refl _)))) (step_len0 S 1 f1 f2)))
        clear hT5 hB5
        go_wp2_with fail
        go_roundg (gk - 1)
        case measure => omega
        case rel => exact ⟨i + 1, _, by first | rfl | (rw [w64_ (by omega) (by omega)]; rfl) | simp, ⟨by omega⟩, ⟨⟨H6.out.1.t.choose, H6.out.1.t.choose_spec.1, fun k hk => hk.elim⟩, Nat.le_trans H6.out.2.2 (Nat.succ_le_succ HT.out.2)⟩, ⟨H6.out.2.1⟩⟩
      · have b0 : (f0 == 0) = false := beq_eq_false_iff_ne.mpr c0
        have b1 : (f0 == 1) = false := beq_eq_false_iff_ne.mpr c1'
        clear c0 c1'
        go_wp2_with fail
        go_roundg (gk - 1)
        case measure => omega
        case rel => exact ⟨i + 1, S, by first | rfl | (rw [w64_ (by omega) (by omega)]; rfl) | simp, ⟨by omega⟩, ⟨⟨HA.out.1.t.choose, HA.out.1.t.choose_spec.1, fun k hk => hk.elim⟩, Nat.le_succ_of_le HT.out.2⟩, ⟨HA.out.2⟩⟩
    · have k1 : decide ((i : Int) < (l.length : Int)) = false := decide_eq_false (by omega)
      have hcp := HT.out.1.copied
      have hM : S.cs.length ≤ 2000 := by have := HT.out.2; have := hshort.1; omega
      have HM := Aside0.mk hM
      clear hM hshort
      go_wp2_with fail
      refine hcp.mono ?_
      rintro e w5 ⟨q, rfl, hT5, hB5⟩
      clear hcp
      have hls := hT5.one.listed ⟨#[]⟩
      rw [list_all] at hls
      have H5 := Aside0.mk (And.intro hT5 (HB.out.trans (hB5.mono HB.out.size)))
      clear hT5 hB5
      go_wp2_with fail
      refine hls.mono ?_
      rintro e w6 ⟨v, rfl, hR6, hB6⟩
      clear hls
      have hT6 := H5.out.1.fresh hB6
      have hmk := hT6.one.mark
      have hwr := hT6.write a s HAX.out (by have := HM.out; omega)
      have hgood := hT6.one.good
      have hW6 := H5.out.2.trans (hB6.mono H5.out.2.size)
      obtain ⟨A1, c1, rfl⟩ := Kd.R_slice hR6
      have hvb : ∀ k, (Value.slice A1 (S.fs.map (·.1)).length c1).ownBlock = some k → w5.heap.size ≤ k ∧ k < w6.heap.size := fun k hk => ⟨((Kd.R_bound hR6).1 k hk).2.1, ((Kd.R_bound hR6).1 k hk).2.2.1⟩
      rw [List.length_map] at hR6 hvb ⊢
      have H6 := Aside0.mk (And.intro hR6 (And.intro (fun k hk => Or.inr (hvb k hk) : ∀ k, (Value.slice A1 S.fs.length c1).ownBlock = some k → False ∨ w5.heap.size ≤ k ∧ k < w6.heap.size) (And.intro hgood hW6)))
      have HT6 := Aside0.mk hT6
      clear hR6 hvb hgood hW6 hB6 hT6
      obtain ⟨N, hN⟩ : ∃ N, S.fs.length = N := ⟨_, rfl⟩
      obtain ⟨M, hMc⟩ : ∃ M, S.cs.length = M := ⟨_, rfl⟩
      have hNle : N ≤ 256 := by rw [← hN]; exact H6.out.2.2.1.few
      have hMle : M ≤ 2000 := by rw [← hMc]; exact HM.out
      simp only [hMc, hN] at hmk H6 ⊢
      have HN := Aside0.mk (And.intro hN hMc)
      clear hN hMc
      go_wp2_with fail
      refine hmk.mono ?_
      rintro e w6 ⟨rfl, rfl⟩
      clear hmk
      go_wp2_with fail
      refine hwr.mono ?_
      rintro e w7 ⟨rfl, hT7, hB7⟩
      clear hwr
      have hW7 := H6.out.2.2.2.trans (hB7.mono H2.out.size)
      have hR7 := TOne.row hT7.one H6.out.1 H6.out.2.1
      rcases writeT_cases S a s with ⟨hw, hp⟩ | ⟨hw, hp, hz⟩ | ⟨hw, hp, hz, hz2⟩ | ⟨hw, hp, hg, hz⟩ | ⟨hw, hp, hg, hz⟩
      -- the three ways to fail
      · rw [hw] at hT7 ⊢
        have hls := hT7.one.listed ⟨#[]⟩
        rw [list_all] at hls
        have H7 := Aside0.mk (And.intro hT7 (And.intro hR7 hW7))
        clear hT7 hR7 hW7 hB7 hw
        go_wp2_with fail
        refine hls.mono ?_
        rintro e w8 ⟨v8, rfl, hR8, hB8⟩
        clear hls
        obtain ⟨A8, c8, rfl, hc8, hC8⟩ := Kd.R_reads hR8
        obtain ⟨hn7, hc7, hC7⟩ := Kd.R_reads' (Kd.R_below H7.out.2.1 hB8)
        have hmk := (H7.out.1.below hB8).one.mark
        rw [HN.out.2] at hmk
        have htx := texts_calls (by rw [List.length_map, HN.out.1]; omega) hC7 (by rw [← hn7]; exact hc7) hC8 hc8
        have H8 := Aside0.mk (H7.out.2.2.trans (hB8.mono H7.out.2.2.size))
        rw [List.length_map, HN.out.1] at htx hc8 ⊢
        have hic := fun w => is_calls a w
        rw [hp] at hic
        clear hC7 hC8 hR8 hB8 hn7 hc7
        try have k3 : decide ((4096 : Int) < (s.size : Int)) = true := decide_eq_true (by omega)
        try have k4 : N = 256 := by rw [← HN.out.1]; exact hz
        try subst k4
        go_wp2_with fail
        refine hmk.mono ?_
        rintro e w8' ⟨rfl, rfl⟩
        clear hmk
        go_wp2_with fail
        refine htx.mono ?_
        rintro e w9 ⟨rfl, ⟨n9, rfl⟩⟩
        clear htx
        go_wp2_with fail
        refine (hic _).mono ?_
        rintro e w10 ⟨rfl, ⟨n10, rfl⟩⟩
        clear hic
        go_wp2_with fail
        go_ret
        exact ⟨rfl, H8.out.trans ((pw_below_drewN (Below.refl _ _) _).mono H8.out.size)⟩
      · rw [hw] at hT7 ⊢
        have hls := hT7.one.listed ⟨#[]⟩
        rw [list_all] at hls
        have H7 := Aside0.mk (And.intro hT7 (And.intro hR7 hW7))
        clear hT7 hR7 hW7 hB7 hw
        go_wp2_with fail
        refine hls.mono ?_
        rintro e w8 ⟨v8, rfl, hR8, hB8⟩
        clear hls
        obtain ⟨A8, c8, rfl, hc8, hC8⟩ := Kd.R_reads hR8
        obtain ⟨hn7, hc7, hC7⟩ := Kd.R_reads' (Kd.R_below H7.out.2.1 hB8)
        have hmk := (H7.out.1.below hB8).one.mark
        rw [HN.out.2] at hmk
        have htx := texts_calls (by rw [List.length_map, HN.out.1]; omega) hC7 (by rw [← hn7]; exact hc7) hC8 hc8
        have H8 := Aside0.mk (H7.out.2.2.trans (hB8.mono H7.out.2.2.size))
        rw [List.length_map, HN.out.1] at htx hc8 ⊢
        have hic := fun w => is_calls a w
        rw [hp] at hic
        clear hC7 hC8 hR8 hB8 hn7 hc7
        try have k3 : decide ((4096 : Int) < (s.size : Int)) = true := decide_eq_true (by omega)
        try have k4 : N = 256 := by rw [← HN.out.1]; exact hz
        try subst k4
        go_wp2_with fail
        refine hmk.mono ?_
        rintro e w8' ⟨rfl, rfl⟩
        clear hmk
        go_wp2_with fail
        refine htx.mono ?_
        rintro e w9 ⟨rfl, ⟨n9, rfl⟩⟩
        clear htx
        go_wp2_with fail
        refine (hic _).mono ?_
        rintro e w10 ⟨rfl, ⟨n10, rfl⟩⟩
        clear hic
        go_wp2_with fail
        go_ret
        exact ⟨rfl, H8.out.trans ((pw_below_drewN (Below.refl _ _) _).mono H8.out.size)⟩
      · rw [hw] at hT7 ⊢
        have hls := hT7.one.listed ⟨#[]⟩
        rw [list_all] at hls
        have H7 := Aside0.mk (And.intro hT7 (And.intro hR7 hW7))
        clear hT7 hR7 hW7 hB7 hw
        go_wp2_with fail
        refine hls.mono ?_
        rintro e w8 ⟨v8, rfl, hR8, hB8⟩
        clear hls
        obtain ⟨A8, c8, rfl, hc8, hC8⟩ := Kd.R_reads hR8
        obtain ⟨hn7, hc7, hC7⟩ := Kd.R_reads' (Kd.R_below H7.out.2.1 hB8)
        have hmk := (H7.out.1.below hB8).one.mark
        rw [HN.out.2] at hmk
        have htx := texts_calls (by rw [List.length_map, HN.out.1]; omega) hC7 (by rw [← hn7]; exact hc7) hC8 hc8
        have H8 := Aside0.mk (H7.out.2.2.trans (hB8.mono H7.out.2.2.size))
        rw [List.length_map, HN.out.1] at htx hc8 ⊢
        have hic := fun w => is_calls a w
        rw [hp] at hic
        clear hC7 hC8 hR8 hB8 hn7 hc7
        try have k3 : decide ((4096 : Int) < (s.size : Int)) = true := decide_eq_true (by omega)
        try have k4 : N = 256 := by rw [← HN.out.1]; exact hz
        try subst k4
        go_wp2_with fail
        refine hmk.mono ?_
        rintro e w8' ⟨rfl, rfl⟩
        clear hmk
        go_wp2_with fail
        refine htx.mono ?_
        rintro e w9 ⟨rfl, ⟨n9, rfl⟩⟩
        clear htx
        go_wp2_with fail
        refine (hic _).mono ?_
        rintro e w10 ⟨rfl, ⟨n10, rfl⟩⟩
        clear hic
        go_wp2_with fail
        go_ret
        exact ⟨rfl, H8.out.trans ((pw_below_drewN (Below.refl _ _) _).mono H8.out.size)⟩
      -- the two ways to be well
      · obtain ⟨S', hS'⟩ : ∃ S' : TS, S' = S := ⟨_, rfl⟩
        have HW := Aside0.mk (show Wrote S S' a s from by rw [hS']; exact wrote_same H6.out.2.2.1 hp hz hg)
        obtain ⟨M', hM'⟩ : ∃ M' : Nat, M' = M := ⟨_, rfl⟩
        have HM' := Aside0.mk (show S'.cs.length = M' from by simp [hS', hM', HN.out.2])
        have hM'le : M' ≤ 2001 := by omega
        have n1 : (((M' : Nat) : Int) != ((M : Nat) : Int)) = false := by rw [hM']; exact bne_self_eq_false _
        have n2 : (((M' : Nat) : Int) != ((M : Nat) : Int) + 1) = true := bne_iff_ne.mpr (by omega)
        have hT8 : Twin (fun k => False ∨ w5.heap.size ≤ k ∧ k < w6.heap.size) w6 w7 w2.heap.size (w2.heap.size + 1) q S' S := by rw [hS']; rw [hw] at hT7; exact hT7
        have hrd1 := hT8.two.read a HAX.out
        rw [show readT S a = (s, 0) from by unfold readT; rw [if_pos hp, hg]] at hrd1
        clear hg
        rw [hw]
        clear hS' hM' hT7 hR7 hB7 hp hz hw
        have n3 : (((M' : Nat) : Int) != ((M' : Nat) : Int)) = false := bne_self_eq_false _
        have es : (s.toList == s.toList) = true := beq_self_eq_true _
        have en : (s.toList != s.toList) = false := bne_self_eq_false _
        have H8 := Aside0.mk (And.intro hT8 hW7)
        clear hT8 hW7
        go_wp2_with fail
        refine hrd1.mono ?_
        rintro e w8 ⟨rfl, ⟨n8, rfl⟩⟩
        clear hrd1
        have hb8 := pw_below_drewN (Below.refl w7.heap.size w7) n8
        have hT8 := H8.out.1.below hb8
        have hW8 := H8.out.2.trans (hb8.mono H8.out.2.size)
        clear H8 hb8
        generalize w7.drewN n8 = w8 at *
        have hrd2 := hT8.one.read a HAX.out
        rw [HW.out.read] at hrd2
        have H8 := Aside0.mk (And.intro hT8 hW8)
        clear hT8 hW8
        go_wp2_with fail
        refine hrd2.mono ?_
        rintro e w9 ⟨rfl, ⟨n9, rfl⟩⟩
        clear hrd2
        have hb9 := pw_below_drewN (Below.refl w8.heap.size w8) n9
        have hT9 := H8.out.1.below hb9
        have hW9 := H8.out.2.trans (hb9.mono H8.out.2.size)
        clear H8 hb9
        generalize w8.drewN n9 = w9 at *
        have hmk := hT9.one.mark
        have hwr := hT9.write a s HAX.out (by have := HM'.out; omega)
        rw [HM'.out] at hmk
        rw [HW.out.again] at hwr
        have H9 := Aside0.mk (And.intro hT9 hW9)
        clear hT9 hW9
        go_wp2_with fail
        refine hmk.mono ?_
        rintro e w9a ⟨rfl, rfl⟩
        go_wp2_with fail
        refine hmk.mono ?_
        rintro e w9b ⟨rfl, rfl⟩
        go_wp2_with fail
        refine hmk.mono ?_
        rintro e w9c ⟨rfl, rfl⟩
        clear hmk
        go_wp2_with fail
        refine hwr.mono ?_
        rintro e w10 ⟨rfl, hT10, hB10⟩
        clear hwr
        have hmk := hT10.one.mark
        rw [HM'.out] at hmk
        have H10 := Aside0.mk (And.intro hT10 (H9.out.2.trans (hB10.mono H2.out.size)))
        clear hT10 hB10
        go_wp2_with fail
        refine hmk.mono ?_
        rintro e w10a ⟨rfl, rfl⟩
        clear hmk
        go_wp2_with fail
        go_loopg [195] (N + 1) (fun n v wr => ∃ k : Nat, v = .int .i64 (k : Int) ∧ Aside0 (k + n = N + 1) ∧ Aside0 (Twin (fun k => False ∨ w5.heap.size ≤ k ∧ k < w6.heap.size) w6 wr w2.heap.size (w2.heap.size + 1) q S' S ∧ Below w.heap.size w wr))
        case atStart => exact ⟨0, rfl, ⟨by omega⟩, ⟨H10.out.1, H10.out.2⟩⟩
        case round =>
          obtain ⟨k, rfl, ⟨hk⟩, HX⟩ := hrel
          by_cases d1 : k < N
          · have k1 : decide ((k : Int) < (N : Int)) = true := decide_eq_true (by omega)
            have hRw := TOne.row HX.out.1.one H6.out.1 H6.out.2.1
            obtain ⟨hnn, hcc, hCC⟩ := Kd.R_reads' hRw
            have hkl : k < S.fs.length := by rw [HN.out.1]; exact d1
            obtain ⟨adk, rfl, y0⟩ := Kd.at_string hCC (k : Int) (by omega) (by rw [List.length_map]; omega)
            have hrd : rdOf ByteArray.empty (S.fs.map (·.1)) (k : Int) = (S.fs[k]'hkl).1 := by
              unfold rdOf
              rw [Int.toNat_natCast, List.getD_eq_getElem?_getD, List.getElem?_map, List.getElem?_eq_getElem hkl]
              rfl
            rw [hrd, Int.toNat_natCast] at y0
            obtain ⟨hrk, hsk⟩ := readT_key H6.out.2.2.1 hkl
            obtain ⟨⟨x, u⟩, hxu⟩ : ∃ y, S.fs[k]'hkl = y := ⟨_, rfl⟩
            rw [hxu] at y0 hrk hsk
            have hxm : x.size ≤ maxLen := by have : x.size ≤ 60 := hsk; unfold maxLen; omega
            have hr1 := fun n => (HX.out.1.below (pw_below_drewN (Below.refl _ _) n)).two.read x hxm
            have hr2 := fun n => (HX.out.1.below (pw_below_drewN (Below.refl _ _) n)).one.read x hxm
            replace hrk : readT S x = (u, 0) := hrk
            rw [hrk] at hr1
            have hr0 := hr1 0
            have i0 : (0 : Int) ≤ (k : Int) := by omega
            have i1 : (k : Int) < (N : Int) := by omega
            by_cases hxa : x = a
            · subst hxa
              rw [HW.out.read] at hr2
              have ex : (x.toList != x.toList) = false := bne_self_eq_false _
              clear hrd hxu hRw hnn hcc hCC hsk hxm hrk
              go_wp2_with fail
              refine hr0.mono ?_
              rintro e wa ⟨rfl, ⟨na, rfl⟩⟩
              have hr3 := hr2 na
              clear hr0 hr1 hr2
              go_wp2_with fail
              refine hr3.mono ?_
              rintro e wb ⟨rfl, ⟨nb, rfl⟩⟩
              clear hr3
              go_wp2_with fail
              go_roundg (gk - 1)
              case measure => omega
              case rel => exact ⟨k + 1, by first | rfl | (rw [w64_ (by omega) (by omega)]; rfl) | simp, ⟨by omega⟩, ⟨HX.out.1.below (pw_below_drewN (Below.refl _ _) _), HX.out.2.trans ((pw_below_drewN (Below.refl _ _) _).mono HX.out.2.size)⟩⟩
            · rw [HW.out.other x hxa, hrk] at hr2
              have ex : (x.toList != a.toList) = true := bne_iff_ne.mpr (fun e => hxa (L_inj (by rw [← toList_L, ← toList_L, e])))
              have eu : (u.toList != u.toList) = false := bne_self_eq_false _
              have ex2 : ¬ (x.toList = a.toList) := (fun e => hxa (L_inj (by rw [← toList_L, ← toList_L, e])))
              have ex3 : (x.toList == a.toList) = false := beq_eq_false_iff_ne.mpr ex2
              clear hrd hxu hRw hnn hcc hCC hsk hxm hrk hxa
              go_wp2_with fail
              refine hr0.mono ?_
              rintro e wa ⟨rfl, ⟨na, rfl⟩⟩
              have hr3 := hr2 na
              clear hr0 hr1 hr2
              go_wp2_with fail
              refine hr3.mono ?_
              rintro e wb ⟨rfl, ⟨nb, rfl⟩⟩
              clear hr3
              go_wp2_with fail
              go_roundg (gk - 1)
              case measure => omega
              case rel => exact ⟨k + 1, by first | rfl | (rw [w64_ (by omega) (by omega)]; rfl) | simp, ⟨by omega⟩, ⟨HX.out.1.below (pw_below_drewN (Below.refl _ _) _), HX.out.2.trans ((pw_below_drewN (Below.refl _ _) _).mono HX.out.2.size)⟩⟩
          · have k1 : decide ((k : Int) < (N : Int)) = false := decide_eq_false (by omega)
            have hrm := HX.out.1.remove a HAX.out (by have := HM'.out; omega)
            rw [HW.out.strike.1] at hrm
            obtain ⟨S2, hS2⟩ : ∃ S2, (removeT S' a).1 = S2 := ⟨_, rfl⟩
            rw [hS2] at hrm
            have HS2 := Aside0.mk hS2
            clear hS2
            go_wp2_with fail
            refine hrm.mono ?_
            rintro e wa ⟨rfl, hTa, hBa⟩
            clear hrm
            have hlen : S2.cs.length = M' + 1 := by rw [← HS2.out, HW.out.strike.2, HM'.out]
            have hrm := hTa.remove a HAX.out (by omega)
            have htw := HW.out.twice
            rw [HS2.out] at htw
            rw [htw.1, htw.2] at hrm
            have HA := Aside0.mk (And.intro (HX.out.2.trans (hBa.mono H2.out.size)) hlen)
            clear htw hTa hBa hlen
            go_wp2_with fail
            refine hrm.mono ?_
            rintro e wb ⟨rfl, hTb, hBb⟩
            clear hrm
            have hmk := hTb.one.mark
            obtain ⟨M2, hM2⟩ : ∃ M2, S2.cs.length = M2 := ⟨_, rfl⟩
            have hrd := hTb.one.read a HAX.out
            have hgn := HW.out.gone
            rw [HS2.out] at hgn
            rw [hgn] at hrd
            rw [hM2] at hmk
            have n4 : (((M2 : Nat) : Int) != ((M' : Nat) : Int) + 1) = false := by rw [← hM2, HA.out.2]; exact bne_self_eq_false _
            have HB2 := Aside0.mk (HA.out.1.trans (hBb.mono H2.out.size))
            clear hgn hTb hBb hM2
            go_wp2_with fail
            refine hmk.mono ?_
            rintro e wc ⟨rfl, rfl⟩
            clear hmk
            go_wp2_with fail
            refine hrd.mono ?_
            rintro e wd ⟨rfl, ⟨nd, rfl⟩⟩
            clear hrd
            go_wp2_with fail
            go_ret
            exact ⟨rfl, HB2.out.trans ((pw_below_drewN (Below.refl _ _) _).mono HB2.out.size)⟩
      · rcases hgs : fget S.fs a with _ | u
        · obtain ⟨S', hS'⟩ : ∃ S' : TS, S' = ⟨fput S.fs a s, S.cs ++ [a]⟩ := ⟨_, rfl⟩
          have HW := Aside0.mk (show Wrote S S' a s from by rw [hS']; exact wrote_new H6.out.2.2.1 hp hz)
          obtain ⟨M', hM'⟩ : ∃ M' : Nat, M' = M + 1 := ⟨_, rfl⟩
          have HM' := Aside0.mk (show S'.cs.length = M' from by simp [hS', hM', HN.out.2])
          have hM'le : M' ≤ 2001 := by omega
          have n1 : (((M' : Nat) : Int) != ((M : Nat) : Int)) = true := bne_iff_ne.mpr (by omega)
          have n2 : (((M' : Nat) : Int) != ((M : Nat) : Int) + 1) = false := by rw [hM']; exact bne_self_eq_false _
          have hT8 : Twin (fun k => False ∨ w5.heap.size ≤ k ∧ k < w6.heap.size) w6 w7 w2.heap.size (w2.heap.size + 1) q S' S := by rw [hS']; rw [hw] at hT7; exact hT7
          have hrd1 := hT8.two.read a HAX.out
          rw [show readT S a = ((⟨#[]⟩ : ByteArray), (4 : Int)) from by unfold readT; rw [if_pos hp, hgs]] at hrd1
          clear hg hgs
          rw [hw]
          clear hS' hM' hT7 hR7 hB7 hp hz hw
          have n3 : (((M' : Nat) : Int) != ((M' : Nat) : Int)) = false := bne_self_eq_false _
          have es : (s.toList == s.toList) = true := beq_self_eq_true _
          have en : (s.toList != s.toList) = false := bne_self_eq_false _
          have H8 := Aside0.mk (And.intro hT8 hW7)
          clear hT8 hW7
          go_wp2_with fail
          refine hrd1.mono ?_
          rintro e w8 ⟨rfl, ⟨n8, rfl⟩⟩
          clear hrd1
          have hb8 := pw_below_drewN (Below.refl w7.heap.size w7) n8
          have hT8 := H8.out.1.below hb8
          have hW8 := H8.out.2.trans (hb8.mono H8.out.2.size)
          clear H8 hb8
          generalize w7.drewN n8 = w8 at *
          have hrd2 := hT8.one.read a HAX.out
          rw [HW.out.read] at hrd2
          have H8 := Aside0.mk (And.intro hT8 hW8)
          clear hT8 hW8
          go_wp2_with fail
          refine hrd2.mono ?_
          rintro e w9 ⟨rfl, ⟨n9, rfl⟩⟩
          clear hrd2
          have hb9 := pw_below_drewN (Below.refl w8.heap.size w8) n9
          have hT9 := H8.out.1.below hb9
          have hW9 := H8.out.2.trans (hb9.mono H8.out.2.size)
          clear H8 hb9
          generalize w8.drewN n9 = w9 at *
          have hmk := hT9.one.mark
          have hwr := hT9.write a s HAX.out (by have := HM'.out; omega)
          rw [HM'.out] at hmk
          rw [HW.out.again] at hwr
          have H9 := Aside0.mk (And.intro hT9 hW9)
          clear hT9 hW9
          go_wp2_with fail
          refine hmk.mono ?_
          rintro e w9a ⟨rfl, rfl⟩
          go_wp2_with fail
          refine hmk.mono ?_
          rintro e w9b ⟨rfl, rfl⟩
          go_wp2_with fail
          refine hmk.mono ?_
          rintro e w9c ⟨rfl, rfl⟩
          clear hmk
          go_wp2_with fail
          refine hwr.mono ?_
          rintro e w10 ⟨rfl, hT10, hB10⟩
          clear hwr
          have hmk := hT10.one.mark
          rw [HM'.out] at hmk
          have H10 := Aside0.mk (And.intro hT10 (H9.out.2.trans (hB10.mono H2.out.size)))
          clear hT10 hB10
          go_wp2_with fail
          refine hmk.mono ?_
          rintro e w10a ⟨rfl, rfl⟩
          clear hmk
          go_wp2_with fail
          go_loopg [195] (N + 1) (fun n v wr => ∃ k : Nat, v = .int .i64 (k : Int) ∧ Aside0 (k + n = N + 1) ∧ Aside0 (Twin (fun k => False ∨ w5.heap.size ≤ k ∧ k < w6.heap.size) w6 wr w2.heap.size (w2.heap.size + 1) q S' S ∧ Below w.heap.size w wr))
          case atStart => exact ⟨0, rfl, ⟨by omega⟩, ⟨H10.out.1, H10.out.2⟩⟩
          case round =>
            obtain ⟨k, rfl, ⟨hk⟩, HX⟩ := hrel
            by_cases d1 : k < N
            · have k1 : decide ((k : Int) < (N : Int)) = true := decide_eq_true (by omega)
              have hRw := TOne.row HX.out.1.one H6.out.1 H6.out.2.1
              obtain ⟨hnn, hcc, hCC⟩ := Kd.R_reads' hRw
              have hkl : k < S.fs.length := by rw [HN.out.1]; exact d1
              obtain ⟨adk, rfl, y0⟩ := Kd.at_string hCC (k : Int) (by omega) (by rw [List.length_map]; omega)
              have hrd : rdOf ByteArray.empty (S.fs.map (·.1)) (k : Int) = (S.fs[k]'hkl).1 := by
                unfold rdOf
                rw [Int.toNat_natCast, List.getD_eq_getElem?_getD, List.getElem?_map, List.getElem?_eq_getElem hkl]
                rfl
              rw [hrd, Int.toNat_natCast] at y0
              obtain ⟨hrk, hsk⟩ := readT_key H6.out.2.2.1 hkl
              obtain ⟨⟨x, u⟩, hxu⟩ : ∃ y, S.fs[k]'hkl = y := ⟨_, rfl⟩
              rw [hxu] at y0 hrk hsk
              have hxm : x.size ≤ maxLen := by have : x.size ≤ 60 := hsk; unfold maxLen; omega
              have hr1 := fun n => (HX.out.1.below (pw_below_drewN (Below.refl _ _) n)).two.read x hxm
              have hr2 := fun n => (HX.out.1.below (pw_below_drewN (Below.refl _ _) n)).one.read x hxm
              replace hrk : readT S x = (u, 0) := hrk
              rw [hrk] at hr1
              have hr0 := hr1 0
              have i0 : (0 : Int) ≤ (k : Int) := by omega
              have i1 : (k : Int) < (N : Int) := by omega
              by_cases hxa : x = a
              · subst hxa
                rw [HW.out.read] at hr2
                have ex : (x.toList != x.toList) = false := bne_self_eq_false _
                clear hrd hxu hRw hnn hcc hCC hsk hxm hrk
                go_wp2_with fail
                refine hr0.mono ?_
                rintro e wa ⟨rfl, ⟨na, rfl⟩⟩
                have hr3 := hr2 na
                clear hr0 hr1 hr2
                go_wp2_with fail
                refine hr3.mono ?_
                rintro e wb ⟨rfl, ⟨nb, rfl⟩⟩
                clear hr3
                go_wp2_with fail
                go_roundg (gk - 1)
                case measure => omega
                case rel => exact ⟨k + 1, by first | rfl | (rw [w64_ (by omega) (by omega)]; rfl) | simp, ⟨by omega⟩, ⟨HX.out.1.below (pw_below_drewN (Below.refl _ _) _), HX.out.2.trans ((pw_below_drewN (Below.refl _ _) _).mono HX.out.2.size)⟩⟩
              · rw [HW.out.other x hxa, hrk] at hr2
                have ex : (x.toList != a.toList) = true := bne_iff_ne.mpr (fun e => hxa (L_inj (by rw [← toList_L, ← toList_L, e])))
                have eu : (u.toList != u.toList) = false := bne_self_eq_false _
                have ex2 : ¬ (x.toList = a.toList) := (fun e => hxa (L_inj (by rw [← toList_L, ← toList_L, e])))
                have ex3 : (x.toList == a.toList) = false := beq_eq_false_iff_ne.mpr ex2
                clear hrd hxu hRw hnn hcc hCC hsk hxm hrk hxa
                go_wp2_with fail
                refine hr0.mono ?_
                rintro e wa ⟨rfl, ⟨na, rfl⟩⟩
                have hr3 := hr2 na
                clear hr0 hr1 hr2
                go_wp2_with fail
                refine hr3.mono ?_
                rintro e wb ⟨rfl, ⟨nb, rfl⟩⟩
                clear hr3
                go_wp2_with fail
                go_roundg (gk - 1)
                case measure => omega
                case rel => exact ⟨k + 1, by first | rfl | (rw [w64_ (by omega) (by omega)]; rfl) | simp, ⟨by omega⟩, ⟨HX.out.1.below (pw_below_drewN (Below.refl _ _) _), HX.out.2.trans ((pw_below_drewN (Below.refl _ _) _).mono HX.out.2.size)⟩⟩
            · have k1 : decide ((k : Int) < (N : Int)) = false := decide_eq_false (by omega)
              have hrm := HX.out.1.remove a HAX.out (by have := HM'.out; omega)
              rw [HW.out.strike.1] at hrm
              obtain ⟨S2, hS2⟩ : ∃ S2, (removeT S' a).1 = S2 := ⟨_, rfl⟩
              rw [hS2] at hrm
              have HS2 := Aside0.mk hS2
              clear hS2
              go_wp2_with fail
              refine hrm.mono ?_
              rintro e wa ⟨rfl, hTa, hBa⟩
              clear hrm
              have hlen : S2.cs.length = M' + 1 := by rw [← HS2.out, HW.out.strike.2, HM'.out]
              have hrm := hTa.remove a HAX.out (by omega)
              have htw := HW.out.twice
              rw [HS2.out] at htw
              rw [htw.1, htw.2] at hrm
              have HA := Aside0.mk (And.intro (HX.out.2.trans (hBa.mono H2.out.size)) hlen)
              clear htw hTa hBa hlen
              go_wp2_with fail
              refine hrm.mono ?_
              rintro e wb ⟨rfl, hTb, hBb⟩
              clear hrm
              have hmk := hTb.one.mark
              obtain ⟨M2, hM2⟩ : ∃ M2, S2.cs.length = M2 := ⟨_, rfl⟩
              have hrd := hTb.one.read a HAX.out
              have hgn := HW.out.gone
              rw [HS2.out] at hgn
              rw [hgn] at hrd
              rw [hM2] at hmk
              have n4 : (((M2 : Nat) : Int) != ((M' : Nat) : Int) + 1) = false := by rw [← hM2, HA.out.2]; exact bne_self_eq_false _
              have HB2 := Aside0.mk (HA.out.1.trans (hBb.mono H2.out.size))
              clear hgn hTb hBb hM2
              go_wp2_with fail
              refine hmk.mono ?_
              rintro e wc ⟨rfl, rfl⟩
              clear hmk
              go_wp2_with fail
              refine hrd.mono ?_
              rintro e wd ⟨rfl, ⟨nd, rfl⟩⟩
              clear hrd
              go_wp2_with fail
              go_ret
              exact ⟨rfl, HB2.out.trans ((pw_below_drewN (Below.refl _ _) _).mono HB2.out.size)⟩
        · obtain ⟨S', hS'⟩ : ∃ S' : TS, S' = ⟨fput S.fs a s, S.cs ++ [a]⟩ := ⟨_, rfl⟩
          have HW := Aside0.mk (show Wrote S S' a s from by rw [hS']; exact wrote_new H6.out.2.2.1 hp hz)
          obtain ⟨M', hM'⟩ : ∃ M' : Nat, M' = M + 1 := ⟨_, rfl⟩
          have HM' := Aside0.mk (show S'.cs.length = M' from by simp [hS', hM', HN.out.2])
          have hM'le : M' ≤ 2001 := by omega
          have n1 : (((M' : Nat) : Int) != ((M : Nat) : Int)) = true := bne_iff_ne.mpr (by omega)
          have n2 : (((M' : Nat) : Int) != ((M : Nat) : Int) + 1) = false := by rw [hM']; exact bne_self_eq_false _
          have hT8 : Twin (fun k => False ∨ w5.heap.size ≤ k ∧ k < w6.heap.size) w6 w7 w2.heap.size (w2.heap.size + 1) q S' S := by rw [hS']; rw [hw] at hT7; exact hT7
          have hrd1 := hT8.two.read a HAX.out
          rw [show readT S a = (u, (0 : Int)) from by unfold readT; rw [if_pos hp, hgs]] at hrd1
          have eu0 : (u.toList == s.toList) = false := beq_eq_false_iff_ne.mpr (fun e => hg (by rw [hgs]; exact congrArg some (L_inj (by rw [← toList_L, ← toList_L, e]))))
          clear hg hgs
          rw [hw]
          clear hS' hM' hT7 hR7 hB7 hp hz hw
          have n3 : (((M' : Nat) : Int) != ((M' : Nat) : Int)) = false := bne_self_eq_false _
          have es : (s.toList == s.toList) = true := beq_self_eq_true _
          have en : (s.toList != s.toList) = false := bne_self_eq_false _
          have H8 := Aside0.mk (And.intro hT8 hW7)
          clear hT8 hW7
          go_wp2_with fail
          refine hrd1.mono ?_
          rintro e w8 ⟨rfl, ⟨n8, rfl⟩⟩
          clear hrd1
          have hb8 := pw_below_drewN (Below.refl w7.heap.size w7) n8
          have hT8 := H8.out.1.below hb8
          have hW8 := H8.out.2.trans (hb8.mono H8.out.2.size)
          clear H8 hb8
          generalize w7.drewN n8 = w8 at *
          have hrd2 := hT8.one.read a HAX.out
          rw [HW.out.read] at hrd2
          have H8 := Aside0.mk (And.intro hT8 hW8)
          clear hT8 hW8
          go_wp2_with fail
          refine hrd2.mono ?_
          rintro e w9 ⟨rfl, ⟨n9, rfl⟩⟩
          clear hrd2
          have hb9 := pw_below_drewN (Below.refl w8.heap.size w8) n9
          have hT9 := H8.out.1.below hb9
          have hW9 := H8.out.2.trans (hb9.mono H8.out.2.size)
          clear H8 hb9
          generalize w8.drewN n9 = w9 at *
          have hmk := hT9.one.mark
          have hwr := hT9.write a s HAX.out (by have := HM'.out; omega)
          rw [HM'.out] at hmk
          rw [HW.out.again] at hwr
          have H9 := Aside0.mk (And.intro hT9 hW9)
          clear hT9 hW9
          go_wp2_with fail
          refine hmk.mono ?_
          rintro e w9a ⟨rfl, rfl⟩
          go_wp2_with fail
          refine hmk.mono ?_
          rintro e w9b ⟨rfl, rfl⟩
          go_wp2_with fail
          refine hmk.mono ?_
          rintro e w9c ⟨rfl, rfl⟩
          clear hmk
          go_wp2_with fail
          refine hwr.mono ?_
          rintro e w10 ⟨rfl, hT10, hB10⟩
          clear hwr
          have hmk := hT10.one.mark
          rw [HM'.out] at hmk
          have H10 := Aside0.mk (And.intro hT10 (H9.out.2.trans (hB10.mono H2.out.size)))
          clear hT10 hB10
          go_wp2_with fail
          refine hmk.mono ?_
          rintro e w10a ⟨rfl, rfl⟩
          clear hmk
          go_wp2_with fail
          go_loopg [195] (N + 1) (fun n v wr => ∃ k : Nat, v = .int .i64 (k : Int) ∧ Aside0 (k + n = N + 1) ∧ Aside0 (Twin (fun k => False ∨ w5.heap.size ≤ k ∧ k < w6.heap.size) w6 wr w2.heap.size (w2.heap.size + 1) q S' S ∧ Below w.heap.size w wr))
          case atStart => exact ⟨0, rfl, ⟨by omega⟩, ⟨H10.out.1, H10.out.2⟩⟩
          case round =>
            obtain ⟨k, rfl, ⟨hk⟩, HX⟩ := hrel
            by_cases d1 : k < N
            · have k1 : decide ((k : Int) < (N : Int)) = true := decide_eq_true (by omega)
              have hRw := TOne.row HX.out.1.one H6.out.1 H6.out.2.1
              obtain ⟨hnn, hcc, hCC⟩ := Kd.R_reads' hRw
              have hkl : k < S.fs.length := by rw [HN.out.1]; exact d1
              obtain ⟨adk, rfl, y0⟩ := Kd.at_string hCC (k : Int) (by omega) (by rw [List.length_map]; omega)
              have hrd : rdOf ByteArray.empty (S.fs.map (·.1)) (k : Int) = (S.fs[k]'hkl).1 := by
                unfold rdOf
                rw [Int.toNat_natCast, List.getD_eq_getElem?_getD, List.getElem?_map, List.getElem?_eq_getElem hkl]
                rfl
              rw [hrd, Int.toNat_natCast] at y0
              obtain ⟨hrk, hsk⟩ := readT_key H6.out.2.2.1 hkl
              obtain ⟨⟨x, u⟩, hxu⟩ : ∃ y, S.fs[k]'hkl = y := ⟨_, rfl⟩
              rw [hxu] at y0 hrk hsk
              have hxm : x.size ≤ maxLen := by have : x.size ≤ 60 := hsk; unfold maxLen; omega
              have hr1 := fun n => (HX.out.1.below (pw_below_drewN (Below.refl _ _) n)).two.read x hxm
              have hr2 := fun n => (HX.out.1.below (pw_below_drewN (Below.refl _ _) n)).one.read x hxm
              replace hrk : readT S x = (u, 0) := hrk
              rw [hrk] at hr1
              have hr0 := hr1 0
              have i0 : (0 : Int) ≤ (k : Int) := by omega
              have i1 : (k : Int) < (N : Int) := by omega
              by_cases hxa : x = a
              · subst hxa
                rw [HW.out.read] at hr2
                have ex : (x.toList != x.toList) = false := bne_self_eq_false _
                clear hrd hxu hRw hnn hcc hCC hsk hxm hrk
                go_wp2_with fail
                refine hr0.mono ?_
                rintro e wa ⟨rfl, ⟨na, rfl⟩⟩
                have hr3 := hr2 na
                clear hr0 hr1 hr2
                go_wp2_with fail
                refine hr3.mono ?_
                rintro e wb ⟨rfl, ⟨nb, rfl⟩⟩
                clear hr3
                go_wp2_with fail
                go_roundg (gk - 1)
                case measure => omega
                case rel => exact ⟨k + 1, by first | rfl | (rw [w64_ (by omega) (by omega)]; rfl) | simp, ⟨by omega⟩, ⟨HX.out.1.below (pw_below_drewN (Below.refl _ _) _), HX.out.2.trans ((pw_below_drewN (Below.refl _ _) _).mono HX.out.2.size)⟩⟩
              · rw [HW.out.other x hxa, hrk] at hr2
                have ex : (x.toList != a.toList) = true := bne_iff_ne.mpr (fun e => hxa (L_inj (by rw [← toList_L, ← toList_L, e])))
                have eu : (u.toList != u.toList) = false := bne_self_eq_false _
                have ex2 : ¬ (x.toList = a.toList) := (fun e => hxa (L_inj (by rw [← toList_L, ← toList_L, e])))
                have ex3 : (x.toList == a.toList) = false := beq_eq_false_iff_ne.mpr ex2
                clear hrd hxu hRw hnn hcc hCC hsk hxm hrk hxa
                go_wp2_with fail
                refine hr0.mono ?_
                rintro e wa ⟨rfl, ⟨na, rfl⟩⟩
                have hr3 := hr2 na
                clear hr0 hr1 hr2
                go_wp2_with fail
                refine hr3.mono ?_
                rintro e wb ⟨rfl, ⟨nb, rfl⟩⟩
                clear hr3
                go_wp2_with fail
                go_roundg (gk - 1)
                case measure => omega
                case rel => exact ⟨k + 1, by first | rfl | (rw [w64_ (by omega) (by omega)]; rfl) | simp, ⟨by omega⟩, ⟨HX.out.1.below (pw_below_drewN (Below.refl _ _) _), HX.out.2.trans ((pw_below_drewN (Below.refl _ _) _).mono HX.out.2.size)⟩⟩
            · have k1 : decide ((k : Int) < (N : Int)) = false := decide_eq_false (by omega)
              have hrm := HX.out.1.remove a HAX.out (by have := HM'.out; omega)
              rw [HW.out.strike.1] at hrm
              obtain ⟨S2, hS2⟩ : ∃ S2, (removeT S' a).1 = S2 := ⟨_, rfl⟩
              rw [hS2] at hrm
              have HS2 := Aside0.mk hS2
              clear hS2
              go_wp2_with fail
              refine hrm.mono ?_
              rintro e wa ⟨rfl, hTa, hBa⟩
              clear hrm
              have hlen : S2.cs.length = M' + 1 := by rw [← HS2.out, HW.out.strike.2, HM'.out]
              have hrm := hTa.remove a HAX.out (by omega)
              have htw := HW.out.twice
              rw [HS2.out] at htw
              rw [htw.1, htw.2] at hrm
              have HA := Aside0.mk (And.intro (HX.out.2.trans (hBa.mono H2.out.size)) hlen)
              clear htw hTa hBa hlen
              go_wp2_with fail
              refine hrm.mono ?_
              rintro e wb ⟨rfl, hTb, hBb⟩
              clear hrm
              have hmk := hTb.one.mark
              obtain ⟨M2, hM2⟩ : ∃ M2, S2.cs.length = M2 := ⟨_, rfl⟩
              have hrd := hTb.one.read a HAX.out
              have hgn := HW.out.gone
              rw [HS2.out] at hgn
              rw [hgn] at hrd
              rw [hM2] at hmk
              have n4 : (((M2 : Nat) : Int) != ((M' : Nat) : Int) + 1) = false := by rw [← hM2, HA.out.2]; exact bne_self_eq_false _
              have HB2 := Aside0.mk (HA.out.1.trans (hBb.mono H2.out.size))
              clear hgn hTb hBb hM2
              go_wp2_with fail
              refine hmk.mono ?_
              rintro e wc ⟨rfl, rfl⟩
              clear hmk
              go_wp2_with fail
              refine hrd.mono ?_
              rintro e wd ⟨rfl, ⟨nd, rfl⟩⟩
              clear hrd
              go_wp2_with fail
              go_ret
              exact ⟨rfl, HB2.out.trans ((pw_below_drewN (Below.refl _ _) _).mono HB2.out.size)⟩
end Go.Proofs.Ytkldaghhfnpcjaa.P
