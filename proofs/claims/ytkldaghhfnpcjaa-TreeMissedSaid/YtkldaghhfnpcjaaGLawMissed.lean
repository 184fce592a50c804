/- TreeMissed' own function, walked. -/
import Derived.Test.YtkldaghhfnpcjaaGLawPlaysW
import Derived.Test.YtkldaghhfnpcjaaGMissed
import Derived.Test.YtkldaghhfnpcjaaPlKeeps
import Derived.WalkLawsBesides
namespace Go.Proofs.Ytkldaghhfnpcjaa.P
open Go.RowKit Go.Maps Go.Proofs.YtkldaghhfnpcjaaW.PrintWords Go.Proofs.YtkldaghhfnpcjaaW.PrintLast Go.Proofs.YtkldaghhfnpcjaaW.PrintMore Go.Proofs.Ytkldaghhfnpcjaa.Pl
set_option linter.unusedVariables false
set_option linter.unusedSimpArgs false
theorem TOne.since {fr : Nat → Prop} {w0 w : World} {b0 p : Nat} {S : TS} (h : TOne fr w0 w b0 p S) (n : Int) :
    Calls Try.prog 25 #[.pointer (some ⟨p, 0, none⟩), .int .i64 n] w (fun e w' => ∃ v, e = .returned (.tuple #[v, .bool (sinceT S n).2]) ∧ Kd.R Kd.string 9 w' w.heap.size (fun _ => True) v (sinceT S n).1 ∧ Below w.heap.size w w') := by
  obtain ⟨ok, h1, h2⟩ := h.t
  exact since_calls h1 n
theorem cut_at (cut : Int) (n : Nat) (hn : n ≤ 1000000) : ∃ k : Nat, k ≤ n ∧ (cut.tmod ((n : Int) + 1) = (k : Int) ∨ (cut.tmod ((n : Int) + 1) = (k : Int) - ((n : Int) + 1))) := by
  have h1 := Int.tmod_lt_of_pos cut (show (0 : Int) < (n : Int) + 1 by omega)
  have h2 := Int.lt_tmod_of_pos cut (show (0 : Int) < (n : Int) + 1 by omega)
  by_cases h : 0 ≤ cut.tmod ((n : Int) + 1)
  · exact ⟨(cut.tmod ((n : Int) + 1)).toNat, by omega, .inl (by omega)⟩
  · exact ⟨(cut.tmod ((n : Int) + 1) + ((n : Int) + 1)).toNat, by omega, .inr (by omega)⟩
set_option maxRecDepth 100000 in
set_option maxHeartbeats 16000000 in
theorem missed_walk (l : List S28) (A : Option Addr) (c : Nat) (cut : Int) (w : World) (hC : Kd.C k28 w A l.length l) (hc : l.length ≤ c) (hl : l.length ≤ 10000000000000) (hb : ∀ o ∈ l, o.f1.size ≤ 1000000000000000 ∧ o.f2.size ≤ 1000000000000000) :
    Calls Try.prog 6 #[.slice A l.length c, .int .i64 cut] w fun e w' => e = .returned (.bool true) ∧ Below w.heap.size w w' := by
  obtain ⟨b, hev, hfin⟩ := long_ev l hl hb
  obtain ⟨k, hk⟩ := ev_some hev
  have HC := Aside0.mk (And.intro hC (And.intro hc hfin))
  clear hev hfin hC hb
  go_enter Try.func6, Try.ntmps6
  go_wp2_with fail
  refine (works_calls w).mono ?_
  rintro e w1 ⟨rfl, hB1⟩
  have hlg := brickyardlaw10_long.calls k A c l b w1 (Kd.C_below HC.out.1 hB1) HC.out.2.1 hk
  have H1 := Aside0.mk hB1
  clear hB1 hk
  go_wp2_with fail
  refine hlg.mono ?_
  rintro e w2 ⟨rfl, ⟨n2, rfl⟩⟩
  clear hlg
  have H2 := Aside0.mk (H1.out.trans ((pw_below_drewN (Below.refl _ w1) n2).mono H1.out.size))
  generalize w1.drewN n2 = w2 at *
  clear k
  cases b with
  | true =>
    go_wp2_with fail
    go_ret
    exact ⟨rfl, H2.out⟩
  | false =>
  by_cases c400 : l.length ≤ 400
  case neg =>
    have k1 : decide ((400 : Int) < (l.length : Int)) = true := decide_eq_true (by omega)
    go_wp2_with fail
    go_ret
    exact ⟨rfl, H2.out⟩
  have k1 : decide ((400 : Int) < (l.length : Int)) = false := decide_eq_false (by omega)
  obtain ⟨k, hkn, hcut⟩ := cut_at cut l.length (by omega)
  have hmm := fun (W : World) => @run_makeMap Try.prog 48 W
  have z0 : (((l.length : Int) + 1 == 0) = false) := beq_eq_false_iff_ne.mpr (by omega)
  rcases hcut with hcut | hcut
  · have hng : decide ((k : Int) < 0) = false := decide_eq_false (by omega)
    go_wp2_with fail
    refine (tnew_calls w2).mono ?_
    rintro e w3 ⟨rfl, hM3, hB3⟩
    have hba := (Below.refl w3.heap.size w3).alloc (Nat.le_refl _) (.map #[] 0)
    have HT3 : MOne (w3.alloc (.map #[] 0)) w3.heap.size 0 (fun _ => none) w2.heap.size (w2.heap.size + 1) ⟨[], []⟩ :=
      ⟨⟨_, hM3.below hba, fun k hk => by subst hk; exact ⟨fun h => by have := (hM3.bound _ h).2; omega, by simp, rfl⟩⟩, MapV.made w3, hB3.size⟩
    have H3 := Aside0.mk (And.intro HT3 ((H2.out.trans (hB3.mono H2.out.size)).trans (hba.mono (Nat.le_trans H2.out.size hB3.size))))
    clear hM3 hB3 hcut hba HT3
    go_wp2_with fail
    go_loopg [8, 9] (l.length + 2) (fun n v8 v9 wr => ∃ (i : Nat) (S : TS) (m : Nat) (f : ByteArray → Option Value) (q : Nat), v8 = .int .i64 (m : Int) ∧ v9 = .int .i64 (i : Int) ∧ Aside0 (i + n = l.length + 2 ∧ i ≤ l.length) ∧
      Aside0 (MOne wr w3.heap.size q f w2.heap.size (w2.heap.size + 1) S ∧ S.cs.length ≤ i ∧ q ≤ 256) ∧ Aside0 (AtCut k i m q f S) ∧ Aside0 (Below w.heap.size w wr))
    case atStart => exact ⟨0, ⟨[], []⟩, 0, _, 0, rfl, rfl, ⟨by omega, by omega⟩, ⟨H3.out.1, Nat.le_refl _, by omega⟩, ⟨.inl ⟨Nat.zero_le _, rfl, rfl, rfl⟩⟩, ⟨H3.out.2⟩⟩
    case round =>
      obtain ⟨i, S, m, f, q, rfl, rfl, HI, H0, HAT, HB⟩ := hrel
      obtain ⟨wo, rfl⟩ : ∃ wo : World, wo = wr := ⟨_, rfl⟩
      obtain ⟨g0, rfl⟩ : ∃ g : Nat, g = gk := ⟨_, rfl⟩
      have hile := HI.out.2
      have hshort := HC.out.2.2 (by first | trivial | rfl)
      have k0 : decide ((i : Int) ≤ (l.length : Int)) = true := decide_eq_true (by omega)
      by_cases ck : i = k
      · subst ck
        have kk : ((i : Int) == (i : Int)) = true := beq_self_eq_true _
        have h00 : q = 0 ∧ f = fun _ => none := by
          rcases HAT.out with ⟨_, _, h⟩ | ⟨h, _⟩
          · exact h
          · omega
        obtain ⟨rfl, rfl⟩ := h00
        have hls := H0.out.1.t.listed ⟨#[]⟩
        rw [list_all] at hls
        have HS0 := Aside0.mk hshort
        clear hshort
        go_wp2_with fail
        refine hls.mono ?_
        rintro e w6 ⟨v, rfl, hR6, hB6⟩
        clear hls
        have hM6 := H0.out.1.below hB6
        obtain ⟨A6, c6, rfl⟩ := Kd.R_slice hR6
        have hNle := hM6.t.good.few
        rw [List.length_map] at ⊢
        obtain ⟨N, hN⟩ : ∃ N, S.fs.length = N := ⟨_, rfl⟩
        rw [hN] at hNle ⊢
        have H8 := Aside0.mk (And.intro hM6 (And.intro hR6 (And.intro (HB.out.trans (hB6.mono HB.out.size)) (And.intro hN H0.out.1.m.lt))))
        clear hM6 hR6 hB6 hN
        go_wp2_with fail
        go_loopg [71] (N + 1) (fun n v wx => ∃ (j : Nat), v = .int .i64 (j : Int) ∧ Aside0 (j + n = N + 1 ∧ j ≤ N) ∧ Aside0 (MOne wx w3.heap.size j (fV (S.fs.take j)) w2.heap.size (w2.heap.size + 1) S ∧ Kd.R Kd.string 9 wx wo.heap.size (fun _ => True) (.slice A6 (S.fs.map (·.1)).length c6) (S.fs.map (·.1))) ∧ Aside0 (Below w.heap.size w wx))
        case atStart => exact ⟨0, rfl, ⟨by omega, by omega⟩, ⟨by rw [List.take_zero]; exact H8.out.1, H8.out.2.1⟩, ⟨H8.out.2.2.1⟩⟩
        case round =>
          obtain ⟨j, rfl, HJ, HX, HBx⟩ := hrel
          obtain ⟨wx, rfl⟩ : ∃ wx : World, wx = wr := ⟨_, rfl⟩
          by_cases e1 : j < N
          · have k3 : decide ((j : Int) < (N : Int)) = true := decide_eq_true (by omega)
            obtain ⟨hnn, hcc, hCC⟩ := Kd.R_reads' HX.out.2
            have hkl : j < S.fs.length := by rw [H8.out.2.2.2.1]; exact e1
            obtain ⟨adk, rfl, y0⟩ := Kd.at_string hCC (j : Int) (by omega) (by rw [List.length_map]; omega)
            have hrd : rdOf ByteArray.empty (S.fs.map (·.1)) (j : Int) = (S.fs[j]'hkl).1 := by
              unfold rdOf
              rw [Int.toNat_natCast, List.getD_eq_getElem?_getD, List.getElem?_map, List.getElem?_eq_getElem hkl]
              rfl
            rw [hrd, Int.toNat_natCast] at y0
            obtain ⟨hrk, hsk⟩ := readT_key HX.out.1.t.good hkl
            have htk : S.fs.take (j + 1) = S.fs.take j ++ [S.fs[j]'hkl] := by rw [List.take_succ_eq_append_getElem hkl]
            have hbef : ∀ x ∈ S.fs.take j, x.1 ≠ (S.fs[j]'hkl).1 := fun x hx => by
              obtain ⟨i', hi', e⟩ := List.mem_take_iff_getElem.1 hx
              rw [← e]
              exact ltB_ne (List.pairwise_iff_getElem.1 HX.out.1.t.good.rise i' j (by omega) hkl (by omega))
            obtain ⟨⟨x, u⟩, hxu⟩ : ∃ y, S.fs[j]'hkl = y := ⟨_, rfl⟩
            rw [hxu] at y0 hrk hsk htk hbef
            have hxm : x.size ≤ maxLen := by have : x.size ≤ 60 := hsk; unfold maxLen; omega
            have hr1 := HX.out.1.t.read x hxm
            replace hrk : readT S x = (u, 0) := hrk
            rw [hrk] at hr1
            have HXX := Aside0.mk (And.intro htk (And.intro (fV_snoc (u := u) hbef) hxm))
            have j0 : (0 : Int) ≤ (j : Int) := by omega
            have j1 : (j : Int) < (N : Int) := by omega
            clear hrd hxu hnn hcc hCC hsk hxm hrk htk hbef hkl
            go_wp2_with fail
            refine hr1.mono ?_
            rintro e wa ⟨rfl, ⟨na, rfl⟩⟩
            clear hr1
            have hp := (HX.out.1.below (pw_below_drewN (Below.refl wx.heap.size wx) na)).put (by omega) x HXX.out.2.2 (.string u)
            obtain ⟨w9, hrun, hM9, hB9, hg9⟩ := hp
            have H9 := Aside0.mk (And.intro hM9 (And.intro (HBx.out.trans ((pw_below_drewN (Below.refl wx.heap.size wx) na).mono HBx.out.size)) (And.intro hB9 (row_grown (Kd.R_below HX.out.2 (pw_below_drewN (Below.refl wx.heap.size wx) na)) hg9 H8.out.2.2.2.2))))
            clear hM9 hB9 hg9
            go_wp2_with fail
            go_roundg (gk - 1)
            case measure => have := HJ.out; omega
            case rel => exact ⟨j + 1, by first | rfl | (rw [w64_ (by omega) (by omega)]; rfl) | simp, ⟨by have := HJ.out; omega, by omega⟩, ⟨by rw [HXX.out.1, HXX.out.2.1]; exact H9.out.1, H9.out.2.2.2⟩, ⟨H9.out.2.1.trans (H9.out.2.2.1.mono H2.out.size)⟩⟩
          · have k3 : decide ((j : Int) < (N : Int)) = false := decide_eq_false (by omega)
            have hjl : S.fs.take j = S.fs := List.take_of_length_le (by rw [H8.out.2.2.2.1]; omega)
            have hMo := HX.out.1
            rw [hjl] at hMo
            have hmk := hMo.t.mark
            have H7 := Aside0.mk (And.intro hMo (And.intro H0.out.2.1 (show j ≤ 256 by have := HJ.out; omega)))
            clear hMo hjl
            go_wp2_with fail
            refine hmk.mono ?_
            rintro e wz ⟨rfl, rfl⟩
            clear hmk
            have hshort := HS0.out
            obtain ⟨m, hm⟩ : ∃ m, m = S.cs.length := ⟨_, rfl⟩
            obtain ⟨f, hf⟩ : ∃ f, f = fV S.fs := ⟨_, rfl⟩
            rw [← hm]
            have HA := Aside0.mk (fun (S' : TS) (hk : ∀ m f, Kept S m f → Kept S' m f) => (.inr ⟨by omega, hk _ _ (by rw [hm, hf]; exact Kept.now S)⟩ : AtCut i (i + 1) m j f S'))
            have H0 := Aside0.mk (show MOne wz w3.heap.size j f w2.heap.size (w2.heap.size + 1) S ∧ S.cs.length ≤ i ∧ j ≤ 256 from by rw [hf]; exact H7.out)
            have HB := HBx
            clear hm hf HAT HBx
            by_cases c1 : i < l.length
            · have k1 : decide ((i : Int) < (l.length : Int)) = true := decide_eq_true (by omega)
              have k2 : ((i : Int) == (l.length : Int)) = false := beq_eq_false_iff_ne.mpr (by omega)
              obtain ⟨ad, rfl, x0, x1, x2, x3⟩ := at_T28 (Kd.C_below HC.out.1 HB.out) (i : Int) (by omega) (by omega)
              have hrd : rd_T28 l (i : Int) = l[i]'c1 := by
                unfold rd_T28
                rw [Int.toNat_natCast, List.getD_eq_getElem?_getD, List.getElem?_eq_getElem c1]
                rfl
              have hsz := hshort.2 (l[i]'c1) (List.getElem_mem c1)
              rw [hrd, Int.toNat_natCast] at x0 x1 x2 x3
              obtain ⟨⟨f0, f1, f2, f3⟩, ho⟩ : ∃ o, l[i]'c1 = o := ⟨_, rfl⟩
              rw [ho] at x0 x1 x2 x3 hsz
              have hm1 : f1.size ≤ maxLen := by unfold maxLen; have : f1.size < 1048576 := hsz.1; omega
              have hcs : S.cs.length < 1000000 := by have := H0.out.2.1; have := hshort.1; omega
              have i0 : (0 : Int) ≤ (i : Int) := by omega
              have i1 : (i : Int) < (l.length : Int) := by omega
              have hba := (Below.refl wz.heap.size wz).alloc (Nat.le_refl _) (.cells #[.int .i64 f0, .string f1, .string f2, .int .i64 f3] 28)
              have HA2 := Aside0.mk (And.intro (H0.out.1.below hba) (HB.out.trans (hba.mono HB.out.size)))
              have HM := Aside0.mk (And.intro hm1 hcs)
              clear hrd hsz ho hba hshort hm1 hcs
              by_cases d0 : f0 = 0
              · subst d0
                have hwc := MOne.write HA2.out.1 f1 f2 HM.out.1 HM.out.2
                go_wp2_with fail
                refine hwc.mono ?_
                rintro e w5 ⟨rfl, hT5, hB5⟩
                clear hwc
                have H6 := Aside0.mk (And.intro hT5 (And.intro (HA2.out.2.trans (hB5.mono H2.out.size)) (And.intro (step_len S 0 f1 f2) (HA.out (writeT S f1 f2).1 (fun m f h => h.write H0.out.1.t.good f1 f2)))))
                clear hT5 hB5
                go_wp2_with fail
                go_roundg (g0 - 1)
                case measure => have := HI.out.1; omega
                case rel => exact ⟨i + 1, (writeT S f1 f2).1, _, _, _, rfl, by first | rfl | (rw [w64_ (by omega) (by omega)]; rfl) | simp, ⟨by have := HI.out.1; omega, by omega⟩, ⟨H6.out.1, Nat.le_trans H6.out.2.2.1 (Nat.succ_le_succ H0.out.2.1), H0.out.2.2⟩, ⟨H6.out.2.2.2⟩, ⟨H6.out.2.1⟩⟩
              by_cases d1 : f0 = 1
              · subst d1
                have hwc := MOne.remove HA2.out.1 f1 HM.out.1 HM.out.2
                go_wp2_with fail
                refine hwc.mono ?_
                rintro e w5 ⟨rfl, hT5, hB5⟩
                clear hwc
                have H6 := Aside0.mk (And.intro hT5 (And.intro (HA2.out.2.trans (hB5.mono H2.out.size)) (And.intro (step_len S 1 f1 f2) (HA.out (removeT S f1).1 (fun m f h => h.remove H0.out.1.t.good f1)))))
                clear hT5 hB5
                go_wp2_with fail
                go_roundg (g0 - 1)
                case measure => have := HI.out.1; omega
                case rel => exact ⟨i + 1, (removeT S f1).1, _, _, _, rfl, by first | rfl | (rw [w64_ (by omega) (by omega)]; rfl) | simp, ⟨by have := HI.out.1; omega, by omega⟩, ⟨H6.out.1, Nat.le_trans H6.out.2.2.1 (Nat.succ_le_succ H0.out.2.1), H0.out.2.2⟩, ⟨H6.out.2.2.2⟩, ⟨H6.out.2.1⟩⟩
              · have b0 : (f0 == 0) = false := beq_eq_false_iff_ne.mpr d0
                have b1 : (f0 == 1) = false := beq_eq_false_iff_ne.mpr d1
                clear d0 d1
                go_wp2_with fail
                go_roundg (g0 - 1)
                case measure => have := HI.out.1; omega
                case rel => exact ⟨i + 1, S, _, _, _, rfl, by first | rfl | (rw [w64_ (by omega) (by omega)]; rfl) | simp, ⟨by have := HI.out.1; omega, by omega⟩, ⟨HA2.out.1, Nat.le_succ_of_le H0.out.2.1, H0.out.2.2⟩, ⟨HA.out S (fun _ _ h => h)⟩, ⟨HA2.out.2⟩⟩
            · have k2 : ((i : Int) == (l.length : Int)) = true := beq_iff_eq.mpr (by omega)
              obtain rfl : i = l.length := by omega
              have hkept : Kept S m f := by
                rcases HA.out S (fun _ _ h => h) with ⟨h1, _⟩ | ⟨_, h⟩
                · omega
                · exact h
              have HK := Aside0.mk hkept
              have hM : S.cs.length ≤ 2000 := by have := H0.out.2.1; have := hshort.1; omega
              have hml : m ≤ S.cs.length := hkept.le
              have hsn := H0.out.1.t.since (m : Int)
              have HM := Aside0.mk (And.intro hM hml)
              clear hkept hshort
              by_cases dd : S.cs.length - m ≤ 32
              case neg =>
                rw [show sinceT S (m : Int) = ([], false) from by unfold sinceT; rw [if_neg (by omega)]] at hsn
                go_wp2_with fail
                refine hsn.mono ?_
                rintro e w5 ⟨v, rfl, hR5, hB5⟩
                clear hsn
                obtain ⟨A5, c5, rfl⟩ := Kd.R_slice hR5
                have hmk := (H0.out.1.below hB5).t.mark
                have H5 := Aside0.mk (HB.out.trans (hB5.mono HB.out.size))
                obtain ⟨M, hMc⟩ : ∃ M, S.cs.length = M := ⟨_, rfl⟩
                rw [hMc] at hmk
                have k3 : decide ((32 : Int) < (M : Int) - (m : Int)) = true := decide_eq_true (by omega)
                have hw3 : wrap64 ((M : Int) - (m : Int)) = (M : Int) - (m : Int) := w64_ (by omega) (by omega)
                clear hR5 hB5
                go_wp2_with fail
                refine hmk.mono ?_
                rintro e w6 ⟨rfl, rfl⟩
                clear hmk
                go_wp2_with fail
                go_ret
                exact ⟨rfl, H5.out⟩
              rw [show sinceT S (m : Int) = (srt (S.cs.drop m), true) from by unfold sinceT; rw [if_pos (by omega), Int.toNat_natCast]] at hsn
              obtain ⟨sl, hsl⟩ : ∃ sl, srt (S.cs.drop m) = sl := ⟨_, rfl⟩
              have hslen : sl.length ≤ 32 := by rw [← hsl]; exact Nat.le_trans (srt_len _) (by rw [List.length_drop]; omega)
              have hss : SS sl := by rw [← hsl]; exact ss_srt _
              have hseen : Seen S f sl = fV S.fs := by rw [← hsl]; exact seen_all HK.out
              have hf0 : Seen S f [] = f := funext (fun q => if_neg List.not_mem_nil)
              have hpath : ∀ p ∈ sl, isP p = true := fun p hp => H0.out.1.t.good.path p (by rw [← hsl] at hp; exact List.mem_of_mem_drop ((mem_srt _ _).1 hp))
              rw [hsl] at hsn
              have HS := Aside0.mk (And.intro hss (And.intro hseen hpath))
              clear hss hseen hpath hsl dd
              go_wp2_with fail
              refine hsn.mono ?_
              rintro e w5 ⟨v, rfl, hR5, hB5⟩
              clear hsn
              obtain ⟨A5, c5, rfl⟩ := Kd.R_slice hR5
              obtain ⟨SN, hSN⟩ : ∃ SN, sl.length = SN := ⟨_, rfl⟩
              have H5 := Aside0.mk (And.intro (H0.out.1.below hB5) (And.intro hR5 (And.intro (HB.out.trans (hB5.mono HB.out.size)) (And.intro hSN H0.out.1.m.lt))))
              rw [hSN] at hslen ⊢
              have Hq := H0.out.2.2
              clear hR5 hB5 hSN
              go_wp2_with fail
              go_loopg [133] (SN + 1) (fun n v wx => ∃ (j : Nat) (q2 : Nat), v = .int .i64 (j : Int) ∧ Aside0 (j + n = SN + 1 ∧ q2 ≤ 256 + j) ∧ Aside0 (MOne wx w3.heap.size q2 (Seen S f (sl.take j)) w2.heap.size (w2.heap.size + 1) S ∧ Kd.R Kd.string 9 wx wz.heap.size (fun _ => True) (.slice A5 sl.length c5) sl) ∧ Aside0 (Below w.heap.size w wx))
              case atStart => exact ⟨0, _, rfl, ⟨by omega, by omega⟩, ⟨by rw [List.take_zero, hf0]; exact H5.out.1, H5.out.2.1⟩, ⟨H5.out.2.2.1⟩⟩
              case round =>
                obtain ⟨j, q2, rfl, HJ, HX, HBx⟩ := hrel
                obtain ⟨wx, rfl⟩ : ∃ wx : World, wx = wr := ⟨_, rfl⟩
                by_cases e1 : j < SN
                · have k3 : decide ((j : Int) < (SN : Int)) = true := decide_eq_true (by omega)
                  have hjl : j < sl.length := by rw [H5.out.2.2.2.1]; exact e1
                  obtain ⟨hnn, hcc, hCC⟩ := Kd.R_reads' HX.out.2
                  obtain ⟨adk, rfl, y0⟩ := Kd.at_string hCC (j : Int) (by omega) (by omega)
                  have hrd : rdOf ByteArray.empty sl (j : Int) = sl[j]'hjl := by
                    unfold rdOf
                    rw [Int.toNat_natCast, List.getD_eq_getElem?_getD, List.getElem?_eq_getElem hjl]
                    rfl
                  rw [hrd, Int.toNat_natCast] at y0
                  have hpp := HS.out.2.2 (sl[j]'hjl) (List.getElem_mem hjl)
                  have htk : sl.take (j + 1) = sl.take j ++ [sl[j]'hjl] := by rw [List.take_succ_eq_append_getElem hjl]
                  have hprev : 0 < j → ∃ y, wx.cell? (adk.add (j - 1)) = some (.string y) ∧ Op.bytesLess y.toList (sl[j]'hjl).toList = true := fun hj => by
                    obtain ⟨adk', he, y1⟩ := Kd.at_string hCC ((j - 1 : Nat) : Int) (by omega) (by omega)
                    injection he with he
                    subst he
                    have hj1 : j - 1 < sl.length := by omega
                    have hrd1 : rdOf ByteArray.empty sl ((j - 1 : Nat) : Int) = sl[j - 1]'hj1 := by
                      unfold rdOf
                      rw [Int.toNat_natCast, List.getD_eq_getElem?_getD, List.getElem?_eq_getElem hj1]
                      rfl
                    rw [hrd1, Int.toNat_natCast] at y1
                    exact ⟨_, y1, (less_ltB _ _).2 (List.pairwise_iff_getElem.1 HS.out.1 (j - 1) j hj1 hjl (by omega))⟩
                  obtain ⟨x, hx⟩ : ∃ x, sl[j]'hjl = x := ⟨_, rfl⟩
                  rw [hx] at y0 hpp htk hprev
                  have hxm : x.size ≤ maxLen := by have := isP_size hpp; unfold maxLen; omega
                  have hrdc := HX.out.1.t.read x hxm
                  have hic := fun w => is_calls x w
                  rw [hpp] at hic
                  have HXX := Aside0.mk (And.intro htk hxm)
                  have Hg := Aside0.mk (And.intro hpp HX.out.1.t.good)
                  have j0 : (0 : Int) ≤ (j : Int) := by omega
                  have j1 : (j : Int) < (SN : Int) := by omega
                  have HP := Aside0.mk hprev
                  have HJ2 := Aside0.mk (show 0 < j ∨ j = 0 by omega)
                  clear hnn hcc hCC hrd hx htk hxm hpp hprev hjl
                  cases hg : fget S.fs x with
                  | none =>
                    rw [show readT S x = ((⟨#[]⟩ : ByteArray), (4 : Int)) from by unfold readT; rw [if_pos Hg.out.1, hg]] at hrdc
                    have hfv : fV S.fs x = none := by unfold fV; rw [hg]; rfl
                    have HF := Aside0.mk hfv
                    clear hg hfv
                    rcases HJ2.out with hj | hj
                    · obtain ⟨y, y1, y2⟩ := HP.out hj
                      have k5 : decide ((0 : Int) < (j : Int)) = true := decide_eq_true (by omega)
                      have k6 : (0 : Int) ≤ (j : Int) - 1 := by omega
                      have k7 : (1 : Int) ≤ (j : Int) := by omega
                      have k8 : (j : Int) - 1 < (SN : Int) := by omega
                      have k9 : ((j : Int) - 1).toNat = j - 1 := by omega
                      go_wp2_with fail
                      refine hrdc.mono ?_
                      rintro e wa ⟨rfl, ⟨na, rfl⟩⟩
                      clear hrdc
                      go_wp2_with fail
                      refine (hic _).mono ?_
                      rintro e wb ⟨rfl, ⟨nb, hwb⟩⟩
                      clear hic
                      have hwb2 : wb = wx.drewN (na + nb) := by rw [hwb]; first | rfl | simp
                      subst hwb2
                      clear hwb
                      have hp := (HX.out.1.below (pw_below_drewN (Below.refl wx.heap.size wx) (na + nb))).del x HXX.out.2 0
                      obtain ⟨w9, hrun, hM9, hB9, hg9⟩ := hp
                      have H9 := Aside0.mk (And.intro hM9 (And.intro (HBx.out.trans ((pw_below_drewN (Below.refl wx.heap.size wx) (na + nb)).mono HBx.out.size)) (And.intro hB9 (row_grown (Kd.R_below HX.out.2 (pw_below_drewN (Below.refl wx.heap.size wx) (na + nb))) hg9 H5.out.2.2.2.2))))
                      clear hM9 hB9 hg9
                      go_wp2_with fail
                      go_roundg (gk - 1)
                      case measure => have := HJ.out; omega
                      case rel => exact ⟨j + 1, q2, by first | rfl | (rw [w64_ (by omega) (by omega)]; rfl) | simp, ⟨by have := HJ.out; omega, by have := HJ.out; omega⟩, ⟨by rw [HXX.out.1, seen_snoc, HF.out]; exact H9.out.1, H9.out.2.2.2⟩, ⟨H9.out.2.1.trans (H9.out.2.2.1.mono H2.out.size)⟩⟩
                    · have k5 : decide ((0 : Int) < (j : Int)) = false := decide_eq_false (by omega)
                      have k5n : decide (0 < j) = false := decide_eq_false (by omega)
                      have k5m : ¬ 0 < j := by omega
                      clear hj
                      go_wp2_with fail
                      refine hrdc.mono ?_
                      rintro e wa ⟨rfl, ⟨na, rfl⟩⟩
                      clear hrdc
                      go_wp2_with fail
                      refine (hic _).mono ?_
                      rintro e wb ⟨rfl, ⟨nb, hwb⟩⟩
                      clear hic
                      have hwb2 : wb = wx.drewN (na + nb) := by rw [hwb]; first | rfl | simp
                      subst hwb2
                      clear hwb
                      have hp := (HX.out.1.below (pw_below_drewN (Below.refl wx.heap.size wx) (na + nb))).del x HXX.out.2 0
                      obtain ⟨w9, hrun, hM9, hB9, hg9⟩ := hp
                      have H9 := Aside0.mk (And.intro hM9 (And.intro (HBx.out.trans ((pw_below_drewN (Below.refl wx.heap.size wx) (na + nb)).mono HBx.out.size)) (And.intro hB9 (row_grown (Kd.R_below HX.out.2 (pw_below_drewN (Below.refl wx.heap.size wx) (na + nb))) hg9 H5.out.2.2.2.2))))
                      clear hM9 hB9 hg9
                      go_wp2_with fail
                      go_roundg (gk - 1)
                      case measure => have := HJ.out; omega
                      case rel => exact ⟨j + 1, q2, by first | rfl | (rw [w64_ (by omega) (by omega)]; rfl) | simp, ⟨by have := HJ.out; omega, by have := HJ.out; omega⟩, ⟨by rw [HXX.out.1, seen_snoc, HF.out]; exact H9.out.1, H9.out.2.2.2⟩, ⟨H9.out.2.1.trans (H9.out.2.2.1.mono H2.out.size)⟩⟩
                  | some s =>
                    rw [show readT S x = (s, (0 : Int)) from by unfold readT; rw [if_pos Hg.out.1, hg]] at hrdc
                    have hfv : fV S.fs x = some (.string s) := by unfold fV; rw [hg]; rfl
                    have HF := Aside0.mk hfv
                    clear hg hfv
                    rcases HJ2.out with hj | hj
                    · obtain ⟨y, y1, y2⟩ := HP.out hj
                      have k5 : decide ((0 : Int) < (j : Int)) = true := decide_eq_true (by omega)
                      have k6 : (0 : Int) ≤ (j : Int) - 1 := by omega
                      have k7 : (1 : Int) ≤ (j : Int) := by omega
                      have k8 : (j : Int) - 1 < (SN : Int) := by omega
                      have k9 : ((j : Int) - 1).toNat = j - 1 := by omega
                      go_wp2_with fail
                      refine hrdc.mono ?_
                      rintro e wa ⟨rfl, ⟨na, rfl⟩⟩
                      clear hrdc
                      go_wp2_with fail
                      refine (hic _).mono ?_
                      rintro e wb ⟨rfl, ⟨nb, hwb⟩⟩
                      clear hic
                      have hwb2 : wb = wx.drewN (na + nb) := by rw [hwb]; first | rfl | simp
                      subst hwb2
                      clear hwb
                      have hp := (HX.out.1.below (pw_below_drewN (Below.refl wx.heap.size wx) (na + nb))).put (by have := HJ.out; omega) x HXX.out.2 (.string s)
                      obtain ⟨w9, hrun, hM9, hB9, hg9⟩ := hp
                      have H9 := Aside0.mk (And.intro hM9 (And.intro (HBx.out.trans ((pw_below_drewN (Below.refl wx.heap.size wx) (na + nb)).mono HBx.out.size)) (And.intro hB9 (row_grown (Kd.R_below HX.out.2 (pw_below_drewN (Below.refl wx.heap.size wx) (na + nb))) hg9 H5.out.2.2.2.2))))
                      clear hM9 hB9 hg9
                      go_wp2_with fail
                      go_roundg (gk - 1)
                      case measure => have := HJ.out; omega
                      case rel => exact ⟨j + 1, q2 + 1, by first | rfl | (rw [w64_ (by omega) (by omega)]; rfl) | simp, ⟨by have := HJ.out; omega, by have := HJ.out; omega⟩, ⟨by rw [HXX.out.1, seen_snoc, HF.out]; exact H9.out.1, H9.out.2.2.2⟩, ⟨H9.out.2.1.trans (H9.out.2.2.1.mono H2.out.size)⟩⟩
                    · have k5 : decide ((0 : Int) < (j : Int)) = false := decide_eq_false (by omega)
                      have k5n : decide (0 < j) = false := decide_eq_false (by omega)
                      have k5m : ¬ 0 < j := by omega
                      clear hj
                      go_wp2_with fail
                      refine hrdc.mono ?_
                      rintro e wa ⟨rfl, ⟨na, rfl⟩⟩
                      clear hrdc
                      go_wp2_with fail
                      refine (hic _).mono ?_
                      rintro e wb ⟨rfl, ⟨nb, hwb⟩⟩
                      clear hic
                      have hwb2 : wb = wx.drewN (na + nb) := by rw [hwb]; first | rfl | simp
                      subst hwb2
                      clear hwb
                      have hp := (HX.out.1.below (pw_below_drewN (Below.refl wx.heap.size wx) (na + nb))).put (by have := HJ.out; omega) x HXX.out.2 (.string s)
                      obtain ⟨w9, hrun, hM9, hB9, hg9⟩ := hp
                      have H9 := Aside0.mk (And.intro hM9 (And.intro (HBx.out.trans ((pw_below_drewN (Below.refl wx.heap.size wx) (na + nb)).mono HBx.out.size)) (And.intro hB9 (row_grown (Kd.R_below HX.out.2 (pw_below_drewN (Below.refl wx.heap.size wx) (na + nb))) hg9 H5.out.2.2.2.2))))
                      clear hM9 hB9 hg9
                      go_wp2_with fail
                      go_roundg (gk - 1)
                      case measure => have := HJ.out; omega
                      case rel => exact ⟨j + 1, q2 + 1, by first | rfl | (rw [w64_ (by omega) (by omega)]; rfl) | simp, ⟨by have := HJ.out; omega, by have := HJ.out; omega⟩, ⟨by rw [HXX.out.1, seen_snoc, HF.out]; exact H9.out.1, H9.out.2.2.2⟩, ⟨H9.out.2.1.trans (H9.out.2.2.1.mono H2.out.size)⟩⟩
                · have k3 : decide ((j : Int) < (SN : Int)) = false := decide_eq_false (by omega)
                  have hjl : sl.take j = sl := List.take_of_length_le (by rw [H5.out.2.2.2.1]; omega)
                  have hMo := HX.out.1
                  rw [hjl, HS.out.2.1] at hMo
                  have hls := hMo.t.listed ⟨#[]⟩
                  rw [list_all] at hls
                  have H7 := Aside0.mk hMo
                  clear hMo hjl
                  go_wp2_with fail
                  refine hls.mono ?_
                  rintro e w6 ⟨v, rfl, hR6, hB6⟩
                  clear hls
                  have hM6 := H7.out.below hB6
                  obtain ⟨A6, c6, rfl⟩ := Kd.R_slice hR6
                  have hlen := hM6.m.len Try.underlying48 3 (S.fs.map (·.1)) (fV_keys S.fs hM6.t.good.rise).1 (fV_keys S.fs hM6.t.good.rise).2
                  have hln := hM6.t.len
                  have hNle := hM6.t.good.few
                  rw [List.length_map] at hlen ⊢
                  obtain ⟨N, hN⟩ : ∃ N, S.fs.length = N := ⟨_, rfl⟩
                  rw [hN] at hlen hln hNle ⊢
                  have n3 : ((N : Int) != (N : Int)) = false := bne_self_eq_false _
                  have H8 := Aside0.mk (And.intro hM6 (And.intro hR6 (And.intro (HBx.out.trans (hB6.mono HBx.out.size)) hN)))
                  clear hM6 hR6 hB6 hN
                  go_wp2_with fail
                  refine hln.mono ?_
                  rintro e w7 ⟨rfl, rfl⟩
                  clear hln
                  go_wp2_with fail
                  go_loopg [191] (N + 1) (fun n v wy => ∃ (j : Nat), v = .int .i64 (j : Int) ∧ Aside0 (j + n = N + 1) ∧ Aside0 (Below w7.heap.size w7 wy))
                  case atStart => exact ⟨0, rfl, ⟨by omega⟩, ⟨Below.refl _ _⟩⟩
                  case round =>
                    obtain ⟨j2, rfl, ⟨hj2⟩, HY⟩ := hrel
                    obtain ⟨wy, rfl⟩ : ∃ wy : World, wy = wr := ⟨_, rfl⟩
                    by_cases g1 : j2 < N
                    · have k4 : decide ((j2 : Int) < (N : Int)) = true := decide_eq_true (by omega)
                      have hMy := H8.out.1.below HY.out
                      obtain ⟨hnn, hcc, hCC⟩ := Kd.R_reads' (Kd.R_below H8.out.2.1 HY.out)
                      have hkl : j2 < S.fs.length := by rw [H8.out.2.2.2]; exact g1
                      obtain ⟨adk, rfl, y0⟩ := Kd.at_string hCC (j2 : Int) (by omega) (by rw [List.length_map]; omega)
                      have hrd : rdOf ByteArray.empty (S.fs.map (·.1)) (j2 : Int) = (S.fs[j2]'hkl).1 := by
                        unfold rdOf
                        rw [Int.toNat_natCast, List.getD_eq_getElem?_getD, List.getElem?_map, List.getElem?_eq_getElem hkl]
                        rfl
                      rw [hrd, Int.toNat_natCast] at y0
                      obtain ⟨hrk, hsk⟩ := readT_key hMy.t.good hkl
                      have hgk := fget_of_mem hMy.t.good.rise (p := (S.fs[j2]'hkl).1) (s := (S.fs[j2]'hkl).2) (List.getElem_mem hkl)
                      obtain ⟨⟨x, u⟩, hxu⟩ : ∃ y, S.fs[j2]'hkl = y := ⟨_, rfl⟩
                      rw [hxu] at y0 hrk hsk hgk
                      have hxm : x.size ≤ maxLen := by have : x.size ≤ 60 := hsk; unfold maxLen; omega
                      have hr1 := hMy.t.read x hxm
                      replace hrk : readT S x = (u, 0) := hrk
                      rw [hrk] at hr1
                      have hlk0 := fun n => (hMy.below (pw_below_drewN (Below.refl _ _) n)).m.look_ok Try.underlying48 (Try.zeroValue9 _) hxm
                      have hfx : fV S.fs x = some (.string u) := by unfold fV; rw [show fget S.fs x = some u from hgk]; rfl
                      have hlk : ∀ n, (Instr.lookup 48 (.map (some w3.heap.size)) (.string x) true).run Try.prog (wy.drewN n) = .ok (.tuple #[.string u, .bool true]) (wy.drewN n) := fun n => by have := hlk0 n; rw [hfx] at this; exact this
                      clear hlk0
                      have eu : (u.toList != u.toList) = false := bne_self_eq_false _
                      have j0 : (0 : Int) ≤ (j2 : Int) := by omega
                      have j1 : (j2 : Int) < (N : Int) := by omega
                      have HMy := Aside0.mk hMy
                      clear hrd hxu hnn hcc hCC hsk hxm hrk hgk hfx hMy hkl
                      go_wp2_with fail
                      refine hr1.mono ?_
                      rintro e wa ⟨rfl, ⟨na, rfl⟩⟩
                      have hlk2 := hlk na
                      clear hr1 hlk
                      go_wp2_with fail
                      go_roundg (gk - 1)
                      case measure => omega
                      case rel => exact ⟨j2 + 1, by first | rfl | (rw [w64_ (by omega) (by omega)]; rfl) | simp, ⟨by omega⟩, ⟨HY.out.trans ((pw_below_drewN (Below.refl _ _) _).mono HY.out.size)⟩⟩
                    · have k4 : decide ((j2 : Int) < (N : Int)) = false := decide_eq_false (by omega)
                      have H9 := Aside0.mk (H8.out.2.2.1.trans (HY.out.mono H8.out.2.2.1.size))
                      go_wp2_with fail
                      go_ret
                      exact ⟨rfl, H9.out⟩
      · have kk : ((i : Int) == (k : Int)) = false := beq_eq_false_iff_ne.mpr (by omega)
        have HA := Aside0.mk (fun (S' : TS) (hk : ∀ m f, Kept S m f → Kept S' m f) => HAT.out.next ck hk)
        clear HAT
        by_cases c1 : i < l.length
        · have k1 : decide ((i : Int) < (l.length : Int)) = true := decide_eq_true (by omega)
          have k2 : ((i : Int) == (l.length : Int)) = false := beq_eq_false_iff_ne.mpr (by omega)
          obtain ⟨ad, rfl, x0, x1, x2, x3⟩ := at_T28 (Kd.C_below HC.out.1 HB.out) (i : Int) (by omega) (by omega)
          have hrd : rd_T28 l (i : Int) = l[i]'c1 := by
            unfold rd_T28
            rw [Int.toNat_natCast, List.getD_eq_getElem?_getD, List.getElem?_eq_getElem c1]
            rfl
          have hsz := hshort.2 (l[i]'c1) (List.getElem_mem c1)
          rw [hrd, Int.toNat_natCast] at x0 x1 x2 x3
          obtain ⟨⟨f0, f1, f2, f3⟩, ho⟩ : ∃ o, l[i]'c1 = o := ⟨_, rfl⟩
          rw [ho] at x0 x1 x2 x3 hsz
          have hm1 : f1.size ≤ maxLen := by unfold maxLen; have : f1.size < 1048576 := hsz.1; omega
          have hcs : S.cs.length < 1000000 := by have := H0.out.2.1; have := hshort.1; omega
          have i0 : (0 : Int) ≤ (i : Int) := by omega
          have i1 : (i : Int) < (l.length : Int) := by omega
          have hba := (Below.refl wo.heap.size wo).alloc (Nat.le_refl _) (.cells #[.int .i64 f0, .string f1, .string f2, .int .i64 f3] 28)
          have HA2 := Aside0.mk (And.intro (H0.out.1.below hba) (HB.out.trans (hba.mono HB.out.size)))
          have HM := Aside0.mk (And.intro hm1 hcs)
          clear hrd hsz ho hba hshort hm1 hcs
          by_cases d0 : f0 = 0
          · subst d0
            have hwc := MOne.write HA2.out.1 f1 f2 HM.out.1 HM.out.2
            go_wp2_with fail
            refine hwc.mono ?_
            rintro e w5 ⟨rfl, hT5, hB5⟩
            clear hwc
            have H6 := Aside0.mk (And.intro hT5 (And.intro (HA2.out.2.trans (hB5.mono H2.out.size)) (And.intro (step_len S 0 f1 f2) (HA.out (writeT S f1 f2).1 (fun m f h => h.write H0.out.1.t.good f1 f2)))))
            clear hT5 hB5
            go_wp2_with fail
            go_roundg (g0 - 1)
            case measure => have := HI.out.1; omega
            case rel => exact ⟨i + 1, (writeT S f1 f2).1, _, _, _, rfl, by first | rfl | (rw [w64_ (by omega) (by omega)]; rfl) | simp, ⟨by have := HI.out.1; omega, by omega⟩, ⟨H6.out.1, Nat.le_trans H6.out.2.2.1 (Nat.succ_le_succ H0.out.2.1), H0.out.2.2⟩, ⟨H6.out.2.2.2⟩, ⟨H6.out.2.1⟩⟩
          by_cases d1 : f0 = 1
          · subst d1
            have hwc := MOne.remove HA2.out.1 f1 HM.out.1 HM.out.2
            go_wp2_with fail
            refine hwc.mono ?_
            rintro e w5 ⟨rfl, hT5, hB5⟩
            clear hwc
            have H6 := Aside0.mk (And.intro hT5 (And.intro (HA2.out.2.trans (hB5.mono H2.out.size)) (And.intro (step_len S 1 f1 f2) (HA.out (removeT S f1).1 (fun m f h => h.remove H0.out.1.t.good f1)))))
            clear hT5 hB5
            go_wp2_with fail
            go_roundg (g0 - 1)
            case measure => have := HI.out.1; omega
            case rel => exact ⟨i + 1, (removeT S f1).1, _, _, _, rfl, by first | rfl | (rw [w64_ (by omega) (by omega)]; rfl) | simp, ⟨by have := HI.out.1; omega, by omega⟩, ⟨H6.out.1, Nat.le_trans H6.out.2.2.1 (Nat.succ_le_succ H0.out.2.1), H0.out.2.2⟩, ⟨H6.out.2.2.2⟩, ⟨H6.out.2.1⟩⟩
          · have b0 : (f0 == 0) = false := beq_eq_false_iff_ne.mpr d0
            have b1 : (f0 == 1) = false := beq_eq_false_iff_ne.mpr d1
            clear d0 d1
            go_wp2_with fail
            go_roundg (g0 - 1)
            case measure => have := HI.out.1; omega
            case rel => exact ⟨i + 1, S, _, _, _, rfl, by first | rfl | (rw [w64_ (by omega) (by omega)]; rfl) | simp, ⟨by have := HI.out.1; omega, by omega⟩, ⟨HA2.out.1, Nat.le_succ_of_le H0.out.2.1, H0.out.2.2⟩, ⟨HA.out S (fun _ _ h => h)⟩, ⟨HA2.out.2⟩⟩
        · have k2 : ((i : Int) == (l.length : Int)) = true := beq_iff_eq.mpr (by omega)
          obtain rfl : i = l.length := by omega
          have hkept : Kept S m f := by
            rcases HA.out S (fun _ _ h => h) with ⟨h1, _⟩ | ⟨_, h⟩
            · omega
            · exact h
          have HK := Aside0.mk hkept
          have hM : S.cs.length ≤ 2000 := by have := H0.out.2.1; have := hshort.1; omega
          have hml : m ≤ S.cs.length := hkept.le
          have hsn := H0.out.1.t.since (m : Int)
          have HM := Aside0.mk (And.intro hM hml)
          clear hkept hshort
          by_cases dd : S.cs.length - m ≤ 32
          case neg =>
            rw [show sinceT S (m : Int) = ([], false) from by unfold sinceT; rw [if_neg (by omega)]] at hsn
            go_wp2_with fail
            refine hsn.mono ?_
            rintro e w5 ⟨v, rfl, hR5, hB5⟩
            clear hsn
            obtain ⟨A5, c5, rfl⟩ := Kd.R_slice hR5
            have hmk := (H0.out.1.below hB5).t.mark
            have H5 := Aside0.mk (HB.out.trans (hB5.mono HB.out.size))
            obtain ⟨M, hMc⟩ : ∃ M, S.cs.length = M := ⟨_, rfl⟩
            rw [hMc] at hmk
            have k3 : decide ((32 : Int) < (M : Int) - (m : Int)) = true := decide_eq_true (by omega)
            have hw3 : wrap64 ((M : Int) - (m : Int)) = (M : Int) - (m : Int) := w64_ (by omega) (by omega)
            clear hR5 hB5
            go_wp2_with fail
            refine hmk.mono ?_
            rintro e w6 ⟨rfl, rfl⟩
            clear hmk
            go_wp2_with fail
            go_ret
            exact ⟨rfl, H5.out⟩
          rw [show sinceT S (m : Int) = (srt (S.cs.drop m), true) from by unfold sinceT; rw [if_pos (by omega), Int.toNat_natCast]] at hsn
          obtain ⟨sl, hsl⟩ : ∃ sl, srt (S.cs.drop m) = sl := ⟨_, rfl⟩
          have hslen : sl.length ≤ 32 := by rw [← hsl]; exact Nat.le_trans (srt_len _) (by rw [List.length_drop]; omega)
          have hss : SS sl := by rw [← hsl]; exact ss_srt _
          have hseen : Seen S f sl = fV S.fs := by rw [← hsl]; exact seen_all HK.out
          have hf0 : Seen S f [] = f := funext (fun q => if_neg List.not_mem_nil)
          have hpath : ∀ p ∈ sl, isP p = true := fun p hp => H0.out.1.t.good.path p (by rw [← hsl] at hp; exact List.mem_of_mem_drop ((mem_srt _ _).1 hp))
          rw [hsl] at hsn
          have HS := Aside0.mk (And.intro hss (And.intro hseen hpath))
          clear hss hseen hpath hsl dd
          go_wp2_with fail
          refine hsn.mono ?_
          rintro e w5 ⟨v, rfl, hR5, hB5⟩
          clear hsn
          obtain ⟨A5, c5, rfl⟩ := Kd.R_slice hR5
          obtain ⟨SN, hSN⟩ : ∃ SN, sl.length = SN := ⟨_, rfl⟩
          have H5 := Aside0.mk (And.intro (H0.out.1.below hB5) (And.intro hR5 (And.intro (HB.out.trans (hB5.mono HB.out.size)) (And.intro hSN H0.out.1.m.lt))))
          rw [hSN] at hslen ⊢
          have Hq := H0.out.2.2
          clear hR5 hB5 hSN
          go_wp2_with fail
          go_loopg [133] (SN + 1) (fun n v wx => ∃ (j : Nat) (q2 : Nat), v = .int .i64 (j : Int) ∧ Aside0 (j + n = SN + 1 ∧ q2 ≤ 256 + j) ∧ Aside0 (MOne wx w3.heap.size q2 (Seen S f (sl.take j)) w2.heap.size (w2.heap.size + 1) S ∧ Kd.R Kd.string 9 wx wo.heap.size (fun _ => True) (.slice A5 sl.length c5) sl) ∧ Aside0 (Below w.heap.size w wx))
          case atStart => exact ⟨0, _, rfl, ⟨by omega, by omega⟩, ⟨by rw [List.take_zero, hf0]; exact H5.out.1, H5.out.2.1⟩, ⟨H5.out.2.2.1⟩⟩
          case round =>
            obtain ⟨j, q2, rfl, HJ, HX, HBx⟩ := hrel
            obtain ⟨wx, rfl⟩ : ∃ wx : World, wx = wr := ⟨_, rfl⟩
            by_cases e1 : j < SN
            · have k3 : decide ((j : Int) < (SN : Int)) = true := decide_eq_true (by omega)
              have hjl : j < sl.length := by rw [H5.out.2.2.2.1]; exact e1
              obtain ⟨hnn, hcc, hCC⟩ := Kd.R_reads' HX.out.2
              obtain ⟨adk, rfl, y0⟩ := Kd.at_string hCC (j : Int) (by omega) (by omega)
              have hrd : rdOf ByteArray.empty sl (j : Int) = sl[j]'hjl := by
                unfold rdOf
                rw [Int.toNat_natCast, List.getD_eq_getElem?_getD, List.getElem?_eq_getElem hjl]
                rfl
              rw [hrd, Int.toNat_natCast] at y0
              have hpp := HS.out.2.2 (sl[j]'hjl) (List.getElem_mem hjl)
              have htk : sl.take (j + 1) = sl.take j ++ [sl[j]'hjl] := by rw [List.take_succ_eq_append_getElem hjl]
              have hprev : 0 < j → ∃ y, wx.cell? (adk.add (j - 1)) = some (.string y) ∧ Op.bytesLess y.toList (sl[j]'hjl).toList = true := fun hj => by
                obtain ⟨adk', he, y1⟩ := Kd.at_string hCC ((j - 1 : Nat) : Int) (by omega) (by omega)
                injection he with he
                subst he
                have hj1 : j - 1 < sl.length := by omega
                have hrd1 : rdOf ByteArray.empty sl ((j - 1 : Nat) : Int) = sl[j - 1]'hj1 := by
                  unfold rdOf
                  rw [Int.toNat_natCast, List.getD_eq_getElem?_getD, List.getElem?_eq_getElem hj1]
                  rfl
                rw [hrd1, Int.toNat_natCast] at y1
                exact ⟨_, y1, (less_ltB _ _).2 (List.pairwise_iff_getElem.1 HS.out.1 (j - 1) j hj1 hjl (by omega))⟩
              obtain ⟨x, hx⟩ : ∃ x, sl[j]'hjl = x := ⟨_, rfl⟩
              rw [hx] at y0 hpp htk hprev
              have hxm : x.size ≤ maxLen := by have := isP_size hpp; unfold maxLen; omega
              have hrdc := HX.out.1.t.read x hxm
              have hic := fun w => is_calls x w
              rw [hpp] at hic
              have HXX := Aside0.mk (And.intro htk hxm)
              have Hg := Aside0.mk (And.intro hpp HX.out.1.t.good)
              have j0 : (0 : Int) ≤ (j : Int) := by omega
              have j1 : (j : Int) < (SN : Int) := by omega
              have HP := Aside0.mk hprev
              have HJ2 := Aside0.mk (show 0 < j ∨ j = 0 by omega)
              clear hnn hcc hCC hrd hx htk hxm hpp hprev hjl
              cases hg : fget S.fs x with
              | none =>
                rw [show readT S x = ((⟨#[]⟩ : ByteArray), (4 : Int)) from by unfold readT; rw [if_pos Hg.out.1, hg]] at hrdc
                have hfv : fV S.fs x = none := by unfold fV; rw [hg]; rfl
                have HF := Aside0.mk hfv
                clear hg hfv
                rcases HJ2.out with hj | hj
                · obtain ⟨y, y1, y2⟩ := HP.out hj
                  have k5 : decide ((0 : Int) < (j : Int)) = true := decide_eq_true (by omega)
                  have k6 : (0 : Int) ≤ (j : Int) - 1 := by omega
                  have k7 : (1 : Int) ≤ (j : Int) := by omega
                  have k8 : (j : Int) - 1 < (SN : Int) := by omega
                  have k9 : ((j : Int) - 1).toNat = j - 1 := by omega
                  go_wp2_with fail
                  refine hrdc.mono ?_
                  rintro e wa ⟨rfl, ⟨na, rfl⟩⟩
                  clear hrdc
                  go_wp2_with fail
                  refine (hic _).mono ?_
                  rintro e wb ⟨rfl, ⟨nb, hwb⟩⟩
                  clear hic
                  have hwb2 : wb = wx.drewN (na + nb) := by rw [hwb]; first | rfl | simp
                  subst hwb2
                  clear hwb
                  have hp := (HX.out.1.below (pw_below_drewN (Below.refl wx.heap.size wx) (na + nb))).del x HXX.out.2 0
                  obtain ⟨w9, hrun, hM9, hB9, hg9⟩ := hp
                  have H9 := Aside0.mk (And.intro hM9 (And.intro (HBx.out.trans ((pw_below_drewN (Below.refl wx.heap.size wx) (na + nb)).mono HBx.out.size)) (And.intro hB9 (row_grown (Kd.R_below HX.out.2 (pw_below_drewN (Below.refl wx.heap.size wx) (na + nb))) hg9 H5.out.2.2.2.2))))
                  clear hM9 hB9 hg9
                  go_wp2_with fail
                  go_roundg (gk - 1)
                  case measure => have := HJ.out; omega
                  case rel => exact ⟨j + 1, q2, by first | rfl | (rw [w64_ (by omega) (by omega)]; rfl) | simp, ⟨by have := HJ.out; omega, by have := HJ.out; omega⟩, ⟨by rw [HXX.out.1, seen_snoc, HF.out]; exact H9.out.1, H9.out.2.2.2⟩, ⟨H9.out.2.1.trans (H9.out.2.2.1.mono H2.out.size)⟩⟩
                · have k5 : decide ((0 : Int) < (j : Int)) = false := decide_eq_false (by omega)
                  have k5n : decide (0 < j) = false := decide_eq_false (by omega)
                  have k5m : ¬ 0 < j := by omega
                  clear hj
                  go_wp2_with fail
                  refine hrdc.mono ?_
                  rintro e wa ⟨rfl, ⟨na, rfl⟩⟩
                  clear hrdc
                  go_wp2_with fail
                  refine (hic _).mono ?_
                  rintro e wb ⟨rfl, ⟨nb, hwb⟩⟩
                  clear hic
                  have hwb2 : wb = wx.drewN (na + nb) := by rw [hwb]; first | rfl | simp
                  subst hwb2
                  clear hwb
                  have hp := (HX.out.1.below (pw_below_drewN (Below.refl wx.heap.size wx) (na + nb))).del x HXX.out.2 0
                  obtain ⟨w9, hrun, hM9, hB9, hg9⟩ := hp
                  have H9 := Aside0.mk (And.intro hM9 (And.intro (HBx.out.trans ((pw_below_drewN (Below.refl wx.heap.size wx) (na + nb)).mono HBx.out.size)) (And.intro hB9 (row_grown (Kd.R_below HX.out.2 (pw_below_drewN (Below.refl wx.heap.size wx) (na + nb))) hg9 H5.out.2.2.2.2))))
                  clear hM9 hB9 hg9
                  go_wp2_with fail
                  go_roundg (gk - 1)
                  case measure => have := HJ.out; omega
                  case rel => exact ⟨j + 1, q2, by first | rfl | (rw [w64_ (by omega) (by omega)]; rfl) | simp, ⟨by have := HJ.out; omega, by have := HJ.out; omega⟩, ⟨by rw [HXX.out.1, seen_snoc, HF.out]; exact H9.out.1, H9.out.2.2.2⟩, ⟨H9.out.2.1.trans (H9.out.2.2.1.mono H2.out.size)⟩⟩
              | some s =>
                rw [show readT S x = (s, (0 : Int)) from by unfold readT; rw [if_pos Hg.out.1, hg]] at hrdc
                have hfv : fV S.fs x = some (.string s) := by unfold fV; rw [hg]; rfl
                have HF := Aside0.mk hfv
                clear hg hfv
                rcases HJ2.out with hj | hj
                · obtain ⟨y, y1, y2⟩ := HP.out hj
                  have k5 : decide ((0 : Int) < (j : Int)) = true := decide_eq_true (by omega)
                  have k6 : (0 : Int) ≤ (j : Int) - 1 := by omega
                  have k7 : (1 : Int) ≤ (j : Int) := by omega
                  have k8 : (j : Int) - 1 < (SN : Int) := by omega
                  have k9 : ((j : Int) - 1).toNat = j - 1 := by omega
                  go_wp2_with fail
                  refine hrdc.mono ?_
                  rintro e wa ⟨rfl, ⟨na, rfl⟩⟩
                  clear hrdc
                  go_wp2_with fail
                  refine (hic _).mono ?_
                  rintro e wb ⟨rfl, ⟨nb, hwb⟩⟩
                  clear hic
                  have hwb2 : wb = wx.drewN (na + nb) := by rw [hwb]; first | rfl | simp
                  subst hwb2
                  clear hwb
                  have hp := (HX.out.1.below (pw_below_drewN (Below.refl wx.heap.size wx) (na + nb))).put (by have := HJ.out; omega) x HXX.out.2 (.string s)
                  obtain ⟨w9, hrun, hM9, hB9, hg9⟩ := hp
                  have H9 := Aside0.mk (And.intro hM9 (And.intro (HBx.out.trans ((pw_below_drewN (Below.refl wx.heap.size wx) (na + nb)).mono HBx.out.size)) (And.intro hB9 (row_grown (Kd.R_below HX.out.2 (pw_below_drewN (Below.refl wx.heap.size wx) (na + nb))) hg9 H5.out.2.2.2.2))))
                  clear hM9 hB9 hg9
                  go_wp2_with fail
                  go_roundg (gk - 1)
                  case measure => have := HJ.out; omega
                  case rel => exact ⟨j + 1, q2 + 1, by first | rfl | (rw [w64_ (by omega) (by omega)]; rfl) | simp, ⟨by have := HJ.out; omega, by have := HJ.out; omega⟩, ⟨by rw [HXX.out.1, seen_snoc, HF.out]; exact H9.out.1, H9.out.2.2.2⟩, ⟨H9.out.2.1.trans (H9.out.2.2.1.mono H2.out.size)⟩⟩
                · have k5 : decide ((0 : Int) < (j : Int)) = false := decide_eq_false (by omega)
                  have k5n : decide (0 < j) = false := decide_eq_false (by omega)
                  have k5m : ¬ 0 < j := by omega
                  clear hj
                  go_wp2_with fail
                  refine hrdc.mono ?_
                  rintro e wa ⟨rfl, ⟨na, rfl⟩⟩
                  clear hrdc
                  go_wp2_with fail
                  refine (hic _).mono ?_
                  rintro e wb ⟨rfl, ⟨nb, hwb⟩⟩
                  clear hic
                  have hwb2 : wb = wx.drewN (na + nb) := by rw [hwb]; first | rfl | simp
                  subst hwb2
                  clear hwb
                  have hp := (HX.out.1.below (pw_below_drewN (Below.refl wx.heap.size wx) (na + nb))).put (by have := HJ.out; omega) x HXX.out.2 (.string s)
                  obtain ⟨w9, hrun, hM9, hB9, hg9⟩ := hp
                  have H9 := Aside0.mk (And.intro hM9 (And.intro (HBx.out.trans ((pw_below_drewN (Below.refl wx.heap.size wx) (na + nb)).mono HBx.out.size)) (And.intro hB9 (row_grown (Kd.R_below HX.out.2 (pw_below_drewN (Below.refl wx.heap.size wx) (na + nb))) hg9 H5.out.2.2.2.2))))
                  clear hM9 hB9 hg9
                  go_wp2_with fail
                  go_roundg (gk - 1)
                  case measure => have := HJ.out; omega
                  case rel => exact ⟨j + 1, q2 + 1, by first | rfl | (rw [w64_ (by omega) (by omega)]; rfl) | simp, ⟨by have := HJ.out; omega, by have := HJ.out; omega⟩, ⟨by rw [HXX.out.1, seen_snoc, HF.out]; exact H9.out.1, H9.out.2.2.2⟩, ⟨H9.out.2.1.trans (H9.out.2.2.1.mono H2.out.size)⟩⟩
            · have k3 : decide ((j : Int) < (SN : Int)) = false := decide_eq_false (by omega)
              have hjl : sl.take j = sl := List.take_of_length_le (by rw [H5.out.2.2.2.1]; omega)
              have hMo := HX.out.1
              rw [hjl, HS.out.2.1] at hMo
              have hls := hMo.t.listed ⟨#[]⟩
              rw [list_all] at hls
              have H7 := Aside0.mk hMo
              clear hMo hjl
              go_wp2_with fail
              refine hls.mono ?_
              rintro e w6 ⟨v, rfl, hR6, hB6⟩
              clear hls
              have hM6 := H7.out.below hB6
              obtain ⟨A6, c6, rfl⟩ := Kd.R_slice hR6
              have hlen := hM6.m.len Try.underlying48 3 (S.fs.map (·.1)) (fV_keys S.fs hM6.t.good.rise).1 (fV_keys S.fs hM6.t.good.rise).2
              have hln := hM6.t.len
              have hNle := hM6.t.good.few
              rw [List.length_map] at hlen ⊢
              obtain ⟨N, hN⟩ : ∃ N, S.fs.length = N := ⟨_, rfl⟩
              rw [hN] at hlen hln hNle ⊢
              have n3 : ((N : Int) != (N : Int)) = false := bne_self_eq_false _
              have H8 := Aside0.mk (And.intro hM6 (And.intro hR6 (And.intro (HBx.out.trans (hB6.mono HBx.out.size)) hN)))
              clear hM6 hR6 hB6 hN
              go_wp2_with fail
              refine hln.mono ?_
              rintro e w7 ⟨rfl, rfl⟩
              clear hln
              go_wp2_with fail
              go_loopg [191] (N + 1) (fun n v wy => ∃ (j : Nat), v = .int .i64 (j : Int) ∧ Aside0 (j + n = N + 1) ∧ Aside0 (Below w7.heap.size w7 wy))
              case atStart => exact ⟨0, rfl, ⟨by omega⟩, ⟨Below.refl _ _⟩⟩
              case round =>
                obtain ⟨j2, rfl, ⟨hj2⟩, HY⟩ := hrel
                obtain ⟨wy, rfl⟩ : ∃ wy : World, wy = wr := ⟨_, rfl⟩
                by_cases g1 : j2 < N
                · have k4 : decide ((j2 : Int) < (N : Int)) = true := decide_eq_true (by omega)
                  have hMy := H8.out.1.below HY.out
                  obtain ⟨hnn, hcc, hCC⟩ := Kd.R_reads' (Kd.R_below H8.out.2.1 HY.out)
                  have hkl : j2 < S.fs.length := by rw [H8.out.2.2.2]; exact g1
                  obtain ⟨adk, rfl, y0⟩ := Kd.at_string hCC (j2 : Int) (by omega) (by rw [List.length_map]; omega)
                  have hrd : rdOf ByteArray.empty (S.fs.map (·.1)) (j2 : Int) = (S.fs[j2]'hkl).1 := by
                    unfold rdOf
                    rw [Int.toNat_natCast, List.getD_eq_getElem?_getD, List.getElem?_map, List.getElem?_eq_getElem hkl]
                    rfl
                  rw [hrd, Int.toNat_natCast] at y0
                  obtain ⟨hrk, hsk⟩ := readT_key hMy.t.good hkl
                  have hgk := fget_of_mem hMy.t.good.rise (p := (S.fs[j2]'hkl).1) (s := (S.fs[j2]'hkl).2) (List.getElem_mem hkl)
                  obtain ⟨⟨x, u⟩, hxu⟩ : ∃ y, S.fs[j2]'hkl = y := ⟨_, rfl⟩
                  rw [hxu] at y0 hrk hsk hgk
                  have hxm : x.size ≤ maxLen := by have : x.size ≤ 60 := hsk; unfold maxLen; omega
                  have hr1 := hMy.t.read x hxm
                  replace hrk : readT S x = (u, 0) := hrk
                  rw [hrk] at hr1
                  have hlk0 := fun n => (hMy.below (pw_below_drewN (Below.refl _ _) n)).m.look_ok Try.underlying48 (Try.zeroValue9 _) hxm
                  have hfx : fV S.fs x = some (.string u) := by unfold fV; rw [show fget S.fs x = some u from hgk]; rfl
                  have hlk : ∀ n, (Instr.lookup 48 (.map (some w3.heap.size)) (.string x) true).run Try.prog (wy.drewN n) = .ok (.tuple #[.string u, .bool true]) (wy.drewN n) := fun n => by have := hlk0 n; rw [hfx] at this; exact this
                  clear hlk0
                  have eu : (u.toList != u.toList) = false := bne_self_eq_false _
                  have j0 : (0 : Int) ≤ (j2 : Int) := by omega
                  have j1 : (j2 : Int) < (N : Int) := by omega
                  have HMy := Aside0.mk hMy
                  clear hrd hxu hnn hcc hCC hsk hxm hrk hgk hfx hMy hkl
                  go_wp2_with fail
                  refine hr1.mono ?_
                  rintro e wa ⟨rfl, ⟨na, rfl⟩⟩
                  have hlk2 := hlk na
                  clear hr1 hlk
                  go_wp2_with fail
                  go_roundg (gk - 1)
                  case measure => omega
                  case rel => exact ⟨j2 + 1, by first | rfl | (rw [w64_ (by omega) (by omega)]; rfl) | simp, ⟨by omega⟩, ⟨HY.out.trans ((pw_below_drewN (Below.refl _ _) _).mono HY.out.size)⟩⟩
                · have k4 : decide ((j2 : Int) < (N : Int)) = false := decide_eq_false (by omega)
                  have H9 := Aside0.mk (H8.out.2.2.1.trans (HY.out.mono H8.out.2.2.1.size))
                  go_wp2_with fail
                  go_ret
                  exact ⟨rfl, H9.out⟩
  · have hng : decide ((k : Int) - ((l.length : Int) + 1) < 0) = true := decide_eq_true (by omega)
    go_wp2_with fail
    refine (tnew_calls w2).mono ?_
    rintro e w3 ⟨rfl, hM3, hB3⟩
    have hba := (Below.refl w3.heap.size w3).alloc (Nat.le_refl _) (.map #[] 0)
    have HT3 : MOne (w3.alloc (.map #[] 0)) w3.heap.size 0 (fun _ => none) w2.heap.size (w2.heap.size + 1) ⟨[], []⟩ :=
      ⟨⟨_, hM3.below hba, fun k hk => by subst hk; exact ⟨fun h => by have := (hM3.bound _ h).2; omega, by simp, rfl⟩⟩, MapV.made w3, hB3.size⟩
    have H3 := Aside0.mk (And.intro HT3 ((H2.out.trans (hB3.mono H2.out.size)).trans (hba.mono (Nat.le_trans H2.out.size hB3.size))))
    clear hM3 hB3 hcut hba HT3
    go_wp2_with fail
    go_loopg [8, 9] (l.length + 2) (fun n v8 v9 wr => ∃ (i : Nat) (S : TS) (m : Nat) (f : ByteArray → Option Value) (q : Nat), v8 = .int .i64 (m : Int) ∧ v9 = .int .i64 (i : Int) ∧ Aside0 (i + n = l.length + 2 ∧ i ≤ l.length) ∧
      Aside0 (MOne wr w3.heap.size q f w2.heap.size (w2.heap.size + 1) S ∧ S.cs.length ≤ i ∧ q ≤ 256) ∧ Aside0 (AtCut k i m q f S) ∧ Aside0 (Below w.heap.size w wr))
    case atStart => exact ⟨0, ⟨[], []⟩, 0, _, 0, rfl, rfl, ⟨by omega, by omega⟩, ⟨H3.out.1, Nat.le_refl _, by omega⟩, ⟨.inl ⟨Nat.zero_le _, rfl, rfl, rfl⟩⟩, ⟨H3.out.2⟩⟩
    case round =>
      obtain ⟨i, S, m, f, q, rfl, rfl, HI, H0, HAT, HB⟩ := hrel
      obtain ⟨wo, rfl⟩ : ∃ wo : World, wo = wr := ⟨_, rfl⟩
      obtain ⟨g0, rfl⟩ : ∃ g : Nat, g = gk := ⟨_, rfl⟩
      have hile := HI.out.2
      have hshort := HC.out.2.2 (by first | trivial | rfl)
      have k0 : decide ((i : Int) ≤ (l.length : Int)) = true := decide_eq_true (by omega)
      by_cases ck : i = k
      · subst ck
        have kk : ((i : Int) == (i : Int)) = true := beq_self_eq_true _
        have h00 : q = 0 ∧ f = fun _ => none := by
          rcases HAT.out with ⟨_, _, h⟩ | ⟨h, _⟩
          · exact h
          · omega
        obtain ⟨rfl, rfl⟩ := h00
        have hls := H0.out.1.t.listed ⟨#[]⟩
        rw [list_all] at hls
        have HS0 := Aside0.mk hshort
        clear hshort
        go_wp2_with fail
        refine hls.mono ?_
        rintro e w6 ⟨v, rfl, hR6, hB6⟩
        clear hls
        have hM6 := H0.out.1.below hB6
        obtain ⟨A6, c6, rfl⟩ := Kd.R_slice hR6
        have hNle := hM6.t.good.few
        rw [List.length_map] at ⊢
        obtain ⟨N, hN⟩ : ∃ N, S.fs.length = N := ⟨_, rfl⟩
        rw [hN] at hNle ⊢
        have H8 := Aside0.mk (And.intro hM6 (And.intro hR6 (And.intro (HB.out.trans (hB6.mono HB.out.size)) (And.intro hN H0.out.1.m.lt))))
        clear hM6 hR6 hB6 hN
        go_wp2_with fail
        go_loopg [71] (N + 1) (fun n v wx => ∃ (j : Nat), v = .int .i64 (j : Int) ∧ Aside0 (j + n = N + 1 ∧ j ≤ N) ∧ Aside0 (MOne wx w3.heap.size j (fV (S.fs.take j)) w2.heap.size (w2.heap.size + 1) S ∧ Kd.R Kd.string 9 wx wo.heap.size (fun _ => True) (.slice A6 (S.fs.map (·.1)).length c6) (S.fs.map (·.1))) ∧ Aside0 (Below w.heap.size w wx))
        case atStart => exact ⟨0, rfl, ⟨by omega, by omega⟩, ⟨by rw [List.take_zero]; exact H8.out.1, H8.out.2.1⟩, ⟨H8.out.2.2.1⟩⟩
        case round =>
          obtain ⟨j, rfl, HJ, HX, HBx⟩ := hrel
          obtain ⟨wx, rfl⟩ : ∃ wx : World, wx = wr := ⟨_, rfl⟩
          by_cases e1 : j < N
          · have k3 : decide ((j : Int) < (N : Int)) = true := decide_eq_true (by omega)
            obtain ⟨hnn, hcc, hCC⟩ := Kd.R_reads' HX.out.2
            have hkl : j < S.fs.length := by rw [H8.out.2.2.2.1]; exact e1
            obtain ⟨adk, rfl, y0⟩ := Kd.at_string hCC (j : Int) (by omega) (by rw [List.length_map]; omega)
            have hrd : rdOf ByteArray.empty (S.fs.map (·.1)) (j : Int) = (S.fs[j]'hkl).1 := by
              unfold rdOf
              rw [Int.toNat_natCast, List.getD_eq_getElem?_getD, List.getElem?_map, List.getElem?_eq_getElem hkl]
              rfl
            rw [hrd, Int.toNat_natCast] at y0
            obtain ⟨hrk, hsk⟩ := readT_key HX.out.1.t.good hkl
            have htk : S.fs.take (j + 1) = S.fs.take j ++ [S.fs[j]'hkl] := by rw [List.take_succ_eq_append_getElem hkl]
            have hbef : ∀ x ∈ S.fs.take j, x.1 ≠ (S.fs[j]'hkl).1 := fun x hx => by
              obtain ⟨i', hi', e⟩ := List.mem_take_iff_getElem.1 hx
              rw [← e]
              exact ltB_ne (List.pairwise_iff_getElem.1 HX.out.1.t.good.rise i' j (by omega) hkl (by omega))
            obtain ⟨⟨x, u⟩, hxu⟩ : ∃ y, S.fs[j]'hkl = y := ⟨_, rfl⟩
            rw [hxu] at y0 hrk hsk htk hbef
            have hxm : x.size ≤ maxLen := by have : x.size ≤ 60 := hsk; unfold maxLen; omega
            have hr1 := HX.out.1.t.read x hxm
            replace hrk : readT S x = (u, 0) := hrk
            rw [hrk] at hr1
            have HXX := Aside0.mk (And.intro htk (And.intro (fV_snoc (u := u) hbef) hxm))
            have j0 : (0 : Int) ≤ (j : Int) := by omega
            have j1 : (j : Int) < (N : Int) := by omega
            clear hrd hxu hnn hcc hCC hsk hxm hrk htk hbef hkl
            go_wp2_with fail
            refine hr1.mono ?_
            rintro e wa ⟨rfl, ⟨na, rfl⟩⟩
            clear hr1
            have hp := (HX.out.1.below (pw_below_drewN (Below.refl wx.heap.size wx) na)).put (by omega) x HXX.out.2.2 (.string u)
            obtain ⟨w9, hrun, hM9, hB9, hg9⟩ := hp
            have H9 := Aside0.mk (And.intro hM9 (And.intro (HBx.out.trans ((pw_below_drewN (Below.refl wx.heap.size wx) na).mono HBx.out.size)) (And.intro hB9 (row_grown (Kd.R_below HX.out.2 (pw_below_drewN (Below.refl wx.heap.size wx) na)) hg9 H8.out.2.2.2.2))))
            clear hM9 hB9 hg9
            go_wp2_with fail
            go_roundg (gk - 1)
            case measure => have := HJ.out; omega
            case rel => exact ⟨j + 1, by first | rfl | (rw [w64_ (by omega) (by omega)]; rfl) | simp, ⟨by have := HJ.out; omega, by omega⟩, ⟨by rw [HXX.out.1, HXX.out.2.1]; exact H9.out.1, H9.out.2.2.2⟩, ⟨H9.out.2.1.trans (H9.out.2.2.1.mono H2.out.size)⟩⟩
          · have k3 : decide ((j : Int) < (N : Int)) = false := decide_eq_false (by omega)
            have hjl : S.fs.take j = S.fs := List.take_of_length_le (by rw [H8.out.2.2.2.1]; omega)
            have hMo := HX.out.1
            rw [hjl] at hMo
            have hmk := hMo.t.mark
            have H7 := Aside0.mk (And.intro hMo (And.intro H0.out.2.1 (show j ≤ 256 by have := HJ.out; omega)))
            clear hMo hjl
            go_wp2_with fail
            refine hmk.mono ?_
            rintro e wz ⟨rfl, rfl⟩
            clear hmk
            have hshort := HS0.out
            obtain ⟨m, hm⟩ : ∃ m, m = S.cs.length := ⟨_, rfl⟩
            obtain ⟨f, hf⟩ : ∃ f, f = fV S.fs := ⟨_, rfl⟩
            rw [← hm]
            have HA := Aside0.mk (fun (S' : TS) (hk : ∀ m f, Kept S m f → Kept S' m f) => (.inr ⟨by omega, hk _ _ (by rw [hm, hf]; exact Kept.now S)⟩ : AtCut i (i + 1) m j f S'))
            have H0 := Aside0.mk (show MOne wz w3.heap.size j f w2.heap.size (w2.heap.size + 1) S ∧ S.cs.length ≤ i ∧ j ≤ 256 from by rw [hf]; exact H7.out)
            have HB := HBx
            clear hm hf HAT HBx
            by_cases c1 : i < l.length
            · have k1 : decide ((i : Int) < (l.length : Int)) = true := decide_eq_true (by omega)
              have k2 : ((i : Int) == (l.length : Int)) = false := beq_eq_false_iff_ne.mpr (by omega)
              obtain ⟨ad, rfl, x0, x1, x2, x3⟩ := at_T28 (Kd.C_below HC.out.1 HB.out) (i : Int) (by omega) (by omega)
              have hrd : rd_T28 l (i : Int) = l[i]'c1 := by
                unfold rd_T28
                rw [Int.toNat_natCast, List.getD_eq_getElem?_getD, List.getElem?_eq_getElem c1]
                rfl
              have hsz := hshort.2 (l[i]'c1) (List.getElem_mem c1)
              rw [hrd, Int.toNat_natCast] at x0 x1 x2 x3
              obtain ⟨⟨f0, f1, f2, f3⟩, ho⟩ : ∃ o, l[i]'c1 = o := ⟨_, rfl⟩
              rw [ho] at x0 x1 x2 x3 hsz
              have hm1 : f1.size ≤ maxLen := by unfold maxLen; have : f1.size < 1048576 := hsz.1; omega
              have hcs : S.cs.length < 1000000 := by have := H0.out.2.1; have := hshort.1; omega
              have i0 : (0 : Int) ≤ (i : Int) := by omega
              have i1 : (i : Int) < (l.length : Int) := by omega
              have hba := (Below.refl wz.heap.size wz).alloc (Nat.le_refl _) (.cells #[.int .i64 f0, .string f1, .string f2, .int .i64 f3] 28)
              have HA2 := Aside0.mk (And.intro (H0.out.1.below hba) (HB.out.trans (hba.mono HB.out.size)))
              have HM := Aside0.mk (And.intro hm1 hcs)
              clear hrd hsz ho hba hshort hm1 hcs
              by_cases d0 : f0 = 0
              · subst d0
                have hwc := MOne.write HA2.out.1 f1 f2 HM.out.1 HM.out.2
                go_wp2_with fail
                refine hwc.mono ?_
                rintro e w5 ⟨rfl, hT5, hB5⟩
                clear hwc
                have H6 := Aside0.mk (And.intro hT5 (And.intro (HA2.out.2.trans (hB5.mono H2.out.size)) (And.intro (step_len S 0 f1 f2) (HA.out (writeT S f1 f2).1 (fun m f h => h.write H0.out.1.t.good f1 f2)))))
                clear hT5 hB5
                go_wp2_with fail
                go_roundg (g0 - 1)
                case measure => have := HI.out.1; omega
                case rel => exact ⟨i + 1, (writeT S f1 f2).1, _, _, _, rfl, by first | rfl | (rw [w64_ (by omega) (by omega)]; rfl) | simp, ⟨by have := HI.out.1; omega, by omega⟩, ⟨H6.out.1, Nat.le_trans H6.out.2.2.1 (Nat.succ_le_succ H0.out.2.1), H0.out.2.2⟩, ⟨H6.out.2.2.2⟩, ⟨H6.out.2.1⟩⟩
              by_cases d1 : f0 = 1
              · subst d1
                have hwc := MOne.remove HA2.out.1 f1 HM.out.1 HM.out.2
                go_wp2_with fail
                refine hwc.mono ?_
                rintro e w5 ⟨rfl, hT5, hB5⟩
                clear hwc
                have H6 := Aside0.mk (And.intro hT5 (And.intro (HA2.out.2.trans (hB5.mono H2.out.size)) (And.intro (step_len S 1 f1 f2) (HA.out (removeT S f1).1 (fun m f h => h.remove H0.out.1.t.good f1)))))
                clear hT5 hB5
                go_wp2_with fail
                go_roundg (g0 - 1)
                case measure => have := HI.out.1; omega
                case rel => exact ⟨i + 1, (removeT S f1).1, _, _, _, rfl, by first | rfl | (rw [w64_ (by omega) (by omega)]; rfl) | simp, ⟨by have := HI.out.1; omega, by omega⟩, ⟨H6.out.1, Nat.le_trans H6.out.2.2.1 (Nat.succ_le_succ H0.out.2.1), H0.out.2.2⟩, ⟨H6.out.2.2.2⟩, ⟨H6.out.2.1⟩⟩
              · have b0 : (f0 == 0) = false := beq_eq_false_iff_ne.mpr d0
                have b1 : (f0 == 1) = false := beq_eq_false_iff_ne.mpr d1
                clear d0 d1
                go_wp2_with fail
                go_roundg (g0 - 1)
                case measure => have := HI.out.1; omega
                case rel => exact ⟨i + 1, S, _, _, _, rfl, by first | rfl | (rw [w64_ (by omega) (by omega)]; rfl) | simp, ⟨by have := HI.out.1; omega, by omega⟩, ⟨HA2.out.1, Nat.le_succ_of_le H0.out.2.1, H0.out.2.2⟩, ⟨HA.out S (fun _ _ h => h)⟩, ⟨HA2.out.2⟩⟩
            · have k2 : ((i : Int) == (l.length : Int)) = true := beq_iff_eq.mpr (by omega)
              obtain rfl : i = l.length := by omega
              have hkept : Kept S m f := by
                rcases HA.out S (fun _ _ h => h) with ⟨h1, _⟩ | ⟨_, h⟩
                · omega
                · exact h
              have HK := Aside0.mk hkept
              have hM : S.cs.length ≤ 2000 := by have := H0.out.2.1; have := hshort.1; omega
              have hml : m ≤ S.cs.length := hkept.le
              have hsn := H0.out.1.t.since (m : Int)
              have HM := Aside0.mk (And.intro hM hml)
              clear hkept hshort
              by_cases dd : S.cs.length - m ≤ 32
              case neg =>
                rw [show sinceT S (m : Int) = ([], false) from by unfold sinceT; rw [if_neg (by omega)]] at hsn
                go_wp2_with fail
                refine hsn.mono ?_
                rintro e w5 ⟨v, rfl, hR5, hB5⟩
                clear hsn
                obtain ⟨A5, c5, rfl⟩ := Kd.R_slice hR5
                have hmk := (H0.out.1.below hB5).t.mark
                have H5 := Aside0.mk (HB.out.trans (hB5.mono HB.out.size))
                obtain ⟨M, hMc⟩ : ∃ M, S.cs.length = M := ⟨_, rfl⟩
                rw [hMc] at hmk
                have k3 : decide ((32 : Int) < (M : Int) - (m : Int)) = true := decide_eq_true (by omega)
                have hw3 : wrap64 ((M : Int) - (m : Int)) = (M : Int) - (m : Int) := w64_ (by omega) (by omega)
                clear hR5 hB5
                go_wp2_with fail
                refine hmk.mono ?_
                rintro e w6 ⟨rfl, rfl⟩
                clear hmk
                go_wp2_with fail
                go_ret
                exact ⟨rfl, H5.out⟩
              rw [show sinceT S (m : Int) = (srt (S.cs.drop m), true) from by unfold sinceT; rw [if_pos (by omega), Int.toNat_natCast]] at hsn
              obtain ⟨sl, hsl⟩ : ∃ sl, srt (S.cs.drop m) = sl := ⟨_, rfl⟩
              have hslen : sl.length ≤ 32 := by rw [← hsl]; exact Nat.le_trans (srt_len _) (by rw [List.length_drop]; omega)
              have hss : SS sl := by rw [← hsl]; exact ss_srt _
              have hseen : Seen S f sl = fV S.fs := by rw [← hsl]; exact seen_all HK.out
              have hf0 : Seen S f [] = f := funext (fun q => if_neg List.not_mem_nil)
              have hpath : ∀ p ∈ sl, isP p = true := fun p hp => H0.out.1.t.good.path p (by rw [← hsl] at hp; exact List.mem_of_mem_drop ((mem_srt _ _).1 hp))
              rw [hsl] at hsn
              have HS := Aside0.mk (And.intro hss (And.intro hseen hpath))
              clear hss hseen hpath hsl dd
              go_wp2_with fail
              refine hsn.mono ?_
              rintro e w5 ⟨v, rfl, hR5, hB5⟩
              clear hsn
              obtain ⟨A5, c5, rfl⟩ := Kd.R_slice hR5
              obtain ⟨SN, hSN⟩ : ∃ SN, sl.length = SN := ⟨_, rfl⟩
              have H5 := Aside0.mk (And.intro (H0.out.1.below hB5) (And.intro hR5 (And.intro (HB.out.trans (hB5.mono HB.out.size)) (And.intro hSN H0.out.1.m.lt))))
              rw [hSN] at hslen ⊢
              have Hq := H0.out.2.2
              clear hR5 hB5 hSN
              go_wp2_with fail
              go_loopg [133] (SN + 1) (fun n v wx => ∃ (j : Nat) (q2 : Nat), v = .int .i64 (j : Int) ∧ Aside0 (j + n = SN + 1 ∧ q2 ≤ 256 + j) ∧ Aside0 (MOne wx w3.heap.size q2 (Seen S f (sl.take j)) w2.heap.size (w2.heap.size + 1) S ∧ Kd.R Kd.string 9 wx wz.heap.size (fun _ => True) (.slice A5 sl.length c5) sl) ∧ Aside0 (Below w.heap.size w wx))
              case atStart => exact ⟨0, _, rfl, ⟨by omega, by omega⟩, ⟨by rw [List.take_zero, hf0]; exact H5.out.1, H5.out.2.1⟩, ⟨H5.out.2.2.1⟩⟩
              case round =>
                obtain ⟨j, q2, rfl, HJ, HX, HBx⟩ := hrel
                obtain ⟨wx, rfl⟩ : ∃ wx : World, wx = wr := ⟨_, rfl⟩
                by_cases e1 : j < SN
                · have k3 : decide ((j : Int) < (SN : Int)) = true := decide_eq_true (by omega)
                  have hjl : j < sl.length := by rw [H5.out.2.2.2.1]; exact e1
                  obtain ⟨hnn, hcc, hCC⟩ := Kd.R_reads' HX.out.2
                  obtain ⟨adk, rfl, y0⟩ := Kd.at_string hCC (j : Int) (by omega) (by omega)
                  have hrd : rdOf ByteArray.empty sl (j : Int) = sl[j]'hjl := by
                    unfold rdOf
                    rw [Int.toNat_natCast, List.getD_eq_getElem?_getD, List.getElem?_eq_getElem hjl]
                    rfl
                  rw [hrd, Int.toNat_natCast] at y0
                  have hpp := HS.out.2.2 (sl[j]'hjl) (List.getElem_mem hjl)
                  have htk : sl.take (j + 1) = sl.take j ++ [sl[j]'hjl] := by rw [List.take_succ_eq_append_getElem hjl]
                  have hprev : 0 < j → ∃ y, wx.cell? (adk.add (j - 1)) = some (.string y) ∧ Op.bytesLess y.toList (sl[j]'hjl).toList = true := fun hj => by
                    obtain ⟨adk', he, y1⟩ := Kd.at_string hCC ((j - 1 : Nat) : Int) (by omega) (by omega)
                    injection he with he
                    subst he
                    have hj1 : j - 1 < sl.length := by omega
                    have hrd1 : rdOf ByteArray.empty sl ((j - 1 : Nat) : Int) = sl[j - 1]'hj1 := by
                      unfold rdOf
                      rw [Int.toNat_natCast, List.getD_eq_getElem?_getD, List.getElem?_eq_getElem hj1]
                      rfl
                    rw [hrd1, Int.toNat_natCast] at y1
                    exact ⟨_, y1, (less_ltB _ _).2 (List.pairwise_iff_getElem.1 HS.out.1 (j - 1) j hj1 hjl (by omega))⟩
                  obtain ⟨x, hx⟩ : ∃ x, sl[j]'hjl = x := ⟨_, rfl⟩
                  rw [hx] at y0 hpp htk hprev
                  have hxm : x.size ≤ maxLen := by have := isP_size hpp; unfold maxLen; omega
                  have hrdc := HX.out.1.t.read x hxm
                  have hic := fun w => is_calls x w
                  rw [hpp] at hic
                  have HXX := Aside0.mk (And.intro htk hxm)
                  have Hg := Aside0.mk (And.intro hpp HX.out.1.t.good)
                  have j0 : (0 : Int) ≤ (j : Int) := by omega
                  have j1 : (j : Int) < (SN : Int) := by omega
                  have HP := Aside0.mk hprev
                  have HJ2 := Aside0.mk (show 0 < j ∨ j = 0 by omega)
                  clear hnn hcc hCC hrd hx htk hxm hpp hprev hjl
                  cases hg : fget S.fs x with
                  | none =>
                    rw [show readT S x = ((⟨#[]⟩ : ByteArray), (4 : Int)) from by unfold readT; rw [if_pos Hg.out.1, hg]] at hrdc
                    have hfv : fV S.fs x = none := by unfold fV; rw [hg]; rfl
                    have HF := Aside0.mk hfv
                    clear hg hfv
                    rcases HJ2.out with hj | hj
                    · obtain ⟨y, y1, y2⟩ := HP.out hj
                      have k5 : decide ((0 : Int) < (j : Int)) = true := decide_eq_true (by omega)
                      have k6 : (0 : Int) ≤ (j : Int) - 1 := by omega
                      have k7 : (1 : Int) ≤ (j : Int) := by omega
                      have k8 : (j : Int) - 1 < (SN : Int) := by omega
                      have k9 : ((j : Int) - 1).toNat = j - 1 := by omega
                      go_wp2_with fail
                      refine hrdc.mono ?_
                      rintro e wa ⟨rfl, ⟨na, rfl⟩⟩
                      clear hrdc
                      go_wp2_with fail
                      refine (hic _).mono ?_
                      rintro e wb ⟨rfl, ⟨nb, hwb⟩⟩
                      clear hic
                      have hwb2 : wb = wx.drewN (na + nb) := by rw [hwb]; first | rfl | simp
                      subst hwb2
                      clear hwb
                      have hp := (HX.out.1.below (pw_below_drewN (Below.refl wx.heap.size wx) (na + nb))).del x HXX.out.2 0
                      obtain ⟨w9, hrun, hM9, hB9, hg9⟩ := hp
                      have H9 := Aside0.mk (And.intro hM9 (And.intro (HBx.out.trans ((pw_below_drewN (Below.refl wx.heap.size wx) (na + nb)).mono HBx.out.size)) (And.intro hB9 (row_grown (Kd.R_below HX.out.2 (pw_below_drewN (Below.refl wx.heap.size wx) (na + nb))) hg9 H5.out.2.2.2.2))))
                      clear hM9 hB9 hg9
                      go_wp2_with fail
                      go_roundg (gk - 1)
                      case measure => have := HJ.out; omega
                      case rel => exact ⟨j + 1, q2, by first | rfl | (rw [w64_ (by omega) (by omega)]; rfl) | simp, ⟨by have := HJ.out; omega, by have := HJ.out; omega⟩, ⟨by rw [HXX.out.1, seen_snoc, HF.out]; exact H9.out.1, H9.out.2.2.2⟩, ⟨H9.out.2.1.trans (H9.out.2.2.1.mono H2.out.size)⟩⟩
                    · have k5 : decide ((0 : Int) < (j : Int)) = false := decide_eq_false (by omega)
                      have k5n : decide (0 < j) = false := decide_eq_false (by omega)
                      have k5m : ¬ 0 < j := by omega
                      clear hj
                      go_wp2_with fail
                      refine hrdc.mono ?_
                      rintro e wa ⟨rfl, ⟨na, rfl⟩⟩
                      clear hrdc
                      go_wp2_with fail
                      refine (hic _).mono ?_
                      rintro e wb ⟨rfl, ⟨nb, hwb⟩⟩
                      clear hic
                      have hwb2 : wb = wx.drewN (na + nb) := by rw [hwb]; first | rfl | simp
                      subst hwb2
                      clear hwb
                      have hp := (HX.out.1.below (pw_below_drewN (Below.refl wx.heap.size wx) (na + nb))).del x HXX.out.2 0
                      obtain ⟨w9, hrun, hM9, hB9, hg9⟩ := hp
                      have H9 := Aside0.mk (And.intro hM9 (And.intro (HBx.out.trans ((pw_below_drewN (Below.refl wx.heap.size wx) (na + nb)).mono HBx.out.size)) (And.intro hB9 (row_grown (Kd.R_below HX.out.2 (pw_below_drewN (Below.refl wx.heap.size wx) (na + nb))) hg9 H5.out.2.2.2.2))))
                      clear hM9 hB9 hg9
                      go_wp2_with fail
                      go_roundg (gk - 1)
                      case measure => have := HJ.out; omega
                      case rel => exact ⟨j + 1, q2, by first | rfl | (rw [w64_ (by omega) (by omega)]; rfl) | simp, ⟨by have := HJ.out; omega, by have := HJ.out; omega⟩, ⟨by rw [HXX.out.1, seen_snoc, HF.out]; exact H9.out.1, H9.out.2.2.2⟩, ⟨H9.out.2.1.trans (H9.out.2.2.1.mono H2.out.size)⟩⟩
                  | some s =>
                    rw [show readT S x = (s, (0 : Int)) from by unfold readT; rw [if_pos Hg.out.1, hg]] at hrdc
                    have hfv : fV S.fs x = some (.string s) := by unfold fV; rw [hg]; rfl
                    have HF := Aside0.mk hfv
                    clear hg hfv
                    rcases HJ2.out with hj | hj
                    · obtain ⟨y, y1, y2⟩ := HP.out hj
                      have k5 : decide ((0 : Int) < (j : Int)) = true := decide_eq_true (by omega)
                      have k6 : (0 : Int) ≤ (j : Int) - 1 := by omega
                      have k7 : (1 : Int) ≤ (j : Int) := by omega
                      have k8 : (j : Int) - 1 < (SN : Int) := by omega
                      have k9 : ((j : Int) - 1).toNat = j - 1 := by omega
                      go_wp2_with fail
                      refine hrdc.mono ?_
                      rintro e wa ⟨rfl, ⟨na, rfl⟩⟩
                      clear hrdc
                      go_wp2_with fail
                      refine (hic _).mono ?_
                      rintro e wb ⟨rfl, ⟨nb, hwb⟩⟩
                      clear hic
                      have hwb2 : wb = wx.drewN (na + nb) := by rw [hwb]; first | rfl | simp
                      subst hwb2
                      clear hwb
                      have hp := (HX.out.1.below (pw_below_drewN (Below.refl wx.heap.size wx) (na + nb))).put (by have := HJ.out; omega) x HXX.out.2 (.string s)
                      obtain ⟨w9, hrun, hM9, hB9, hg9⟩ := hp
                      have H9 := Aside0.mk (And.intro hM9 (And.intro (HBx.out.trans ((pw_below_drewN (Below.refl wx.heap.size wx) (na + nb)).mono HBx.out.size)) (And.intro hB9 (row_grown (Kd.R_below HX.out.2 (pw_below_drewN (Below.refl wx.heap.size wx) (na + nb))) hg9 H5.out.2.2.2.2))))
                      clear hM9 hB9 hg9
                      go_wp2_with fail
                      go_roundg (gk - 1)
                      case measure => have := HJ.out; omega
                      case rel => exact ⟨j + 1, q2 + 1, by first | rfl | (rw [w64_ (by omega) (by omega)]; rfl) | simp, ⟨by have := HJ.out; omega, by have := HJ.out; omega⟩, ⟨by rw [HXX.out.1, seen_snoc, HF.out]; exact H9.out.1, H9.out.2.2.2⟩, ⟨H9.out.2.1.trans (H9.out.2.2.1.mono H2.out.size)⟩⟩
                    · have k5 : decide ((0 : Int) < (j : Int)) = false := decide_eq_false (by omega)
                      have k5n : decide (0 < j) = false := decide_eq_false (by omega)
                      have k5m : ¬ 0 < j := by omega
                      clear hj
                      go_wp2_with fail
                      refine hrdc.mono ?_
                      rintro e wa ⟨rfl, ⟨na, rfl⟩⟩
                      clear hrdc
                      go_wp2_with fail
                      refine (hic _).mono ?_
                      rintro e wb ⟨rfl, ⟨nb, hwb⟩⟩
                      clear hic
                      have hwb2 : wb = wx.drewN (na + nb) := by rw [hwb]; first | rfl | simp
                      subst hwb2
                      clear hwb
                      have hp := (HX.out.1.below (pw_below_drewN (Below.refl wx.heap.size wx) (na + nb))).put (by have := HJ.out; omega) x HXX.out.2 (.string s)
                      obtain ⟨w9, hrun, hM9, hB9, hg9⟩ := hp
                      have H9 := Aside0.mk (And.intro hM9 (And.intro (HBx.out.trans ((pw_below_drewN (Below.refl wx.heap.size wx) (na + nb)).mono HBx.out.size)) (And.intro hB9 (row_grown (Kd.R_below HX.out.2 (pw_below_drewN (Below.refl wx.heap.size wx) (na + nb))) hg9 H5.out.2.2.2.2))))
                      clear hM9 hB9 hg9
                      go_wp2_with fail
                      go_roundg (gk - 1)
                      case measure => have := HJ.out; omega
                      case rel => exact ⟨j + 1, q2 + 1, by first | rfl | (rw [w64_ (by omega) (by omega)]; rfl) | simp, ⟨by have := HJ.out; omega, by have := HJ.out; omega⟩, ⟨by rw [HXX.out.1, seen_snoc, HF.out]; exact H9.out.1, H9.out.2.2.2⟩, ⟨H9.out.2.1.trans (H9.out.2.2.1.mono H2.out.size)⟩⟩
                · have k3 : decide ((j : Int) < (SN : Int)) = false := decide_eq_false (by omega)
                  have hjl : sl.take j = sl := List.take_of_length_le (by rw [H5.out.2.2.2.1]; omega)
                  have hMo := HX.out.1
                  rw [hjl, HS.out.2.1] at hMo
                  have hls := hMo.t.listed ⟨#[]⟩
                  rw [list_all] at hls
                  have H7 := Aside0.mk hMo
                  clear hMo hjl
                  go_wp2_with fail
                  refine hls.mono ?_
                  rintro e w6 ⟨v, rfl, hR6, hB6⟩
                  clear hls
                  have hM6 := H7.out.below hB6
                  obtain ⟨A6, c6, rfl⟩ := Kd.R_slice hR6
                  have hlen := hM6.m.len Try.underlying48 3 (S.fs.map (·.1)) (fV_keys S.fs hM6.t.good.rise).1 (fV_keys S.fs hM6.t.good.rise).2
                  have hln := hM6.t.len
                  have hNle := hM6.t.good.few
                  rw [List.length_map] at hlen ⊢
                  obtain ⟨N, hN⟩ : ∃ N, S.fs.length = N := ⟨_, rfl⟩
                  rw [hN] at hlen hln hNle ⊢
                  have n3 : ((N : Int) != (N : Int)) = false := bne_self_eq_false _
                  have H8 := Aside0.mk (And.intro hM6 (And.intro hR6 (And.intro (HBx.out.trans (hB6.mono HBx.out.size)) hN)))
                  clear hM6 hR6 hB6 hN
                  go_wp2_with fail
                  refine hln.mono ?_
                  rintro e w7 ⟨rfl, rfl⟩
                  clear hln
                  go_wp2_with fail
                  go_loopg [191] (N + 1) (fun n v wy => ∃ (j : Nat), v = .int .i64 (j : Int) ∧ Aside0 (j + n = N + 1) ∧ Aside0 (Below w7.heap.size w7 wy))
                  case atStart => exact ⟨0, rfl, ⟨by omega⟩, ⟨Below.refl _ _⟩⟩
                  case round =>
                    obtain ⟨j2, rfl, ⟨hj2⟩, HY⟩ := hrel
                    obtain ⟨wy, rfl⟩ : ∃ wy : World, wy = wr := ⟨_, rfl⟩
                    by_cases g1 : j2 < N
                    · have k4 : decide ((j2 : Int) < (N : Int)) = true := decide_eq_true (by omega)
                      have hMy := H8.out.1.below HY.out
                      obtain ⟨hnn, hcc, hCC⟩ := Kd.R_reads' (Kd.R_below H8.out.2.1 HY.out)
                      have hkl : j2 < S.fs.length := by rw [H8.out.2.2.2]; exact g1
                      obtain ⟨adk, rfl, y0⟩ := Kd.at_string hCC (j2 : Int) (by omega) (by rw [List.length_map]; omega)
                      have hrd : rdOf ByteArray.empty (S.fs.map (·.1)) (j2 : Int) = (S.fs[j2]'hkl).1 := by
                        unfold rdOf
                        rw [Int.toNat_natCast, List.getD_eq_getElem?_getD, List.getElem?_map, List.getElem?_eq_getElem hkl]
                        rfl
                      rw [hrd, Int.toNat_natCast] at y0
                      obtain ⟨hrk, hsk⟩ := readT_key hMy.t.good hkl
                      have hgk := fget_of_mem hMy.t.good.rise (p := (S.fs[j2]'hkl).1) (s := (S.fs[j2]'hkl).2) (List.getElem_mem hkl)
                      obtain ⟨⟨x, u⟩, hxu⟩ : ∃ y, S.fs[j2]'hkl = y := ⟨_, rfl⟩
                      rw [hxu] at y0 hrk hsk hgk
                      have hxm : x.size ≤ maxLen := by have : x.size ≤ 60 := hsk; unfold maxLen; omega
                      have hr1 := hMy.t.read x hxm
                      replace hrk : readT S x = (u, 0) := hrk
                      rw [hrk] at hr1
                      have hlk0 := fun n => (hMy.below (pw_below_drewN (Below.refl _ _) n)).m.look_ok Try.underlying48 (Try.zeroValue9 _) hxm
                      have hfx : fV S.fs x = some (.string u) := by unfold fV; rw [show fget S.fs x = some u from hgk]; rfl
                      have hlk : ∀ n, (Instr.lookup 48 (.map (some w3.heap.size)) (.string x) true).run Try.prog (wy.drewN n) = .ok (.tuple #[.string u, .bool true]) (wy.drewN n) := fun n => by have := hlk0 n; rw [hfx] at this; exact this
                      clear hlk0
                      have eu : (u.toList != u.toList) = false := bne_self_eq_false _
                      have j0 : (0 : Int) ≤ (j2 : Int) := by omega
                      have j1 : (j2 : Int) < (N : Int) := by omega
                      have HMy := Aside0.mk hMy
                      clear hrd hxu hnn hcc hCC hsk hxm hrk hgk hfx hMy hkl
                      go_wp2_with fail
                      refine hr1.mono ?_
                      rintro e wa ⟨rfl, ⟨na, rfl⟩⟩
                      have hlk2 := hlk na
                      clear hr1 hlk
                      go_wp2_with fail
                      go_roundg (gk - 1)
                      case measure => omega
                      case rel => exact ⟨j2 + 1, by first | rfl | (rw [w64_ (by omega) (by omega)]; rfl) | simp, ⟨by omega⟩, ⟨HY.out.trans ((pw_below_drewN (Below.refl _ _) _).mono HY.out.size)⟩⟩
                    · have k4 : decide ((j2 : Int) < (N : Int)) = false := decide_eq_false (by omega)
                      have H9 := Aside0.mk (H8.out.2.2.1.trans (HY.out.mono H8.out.2.2.1.size))
                      go_wp2_with fail
                      go_ret
                      exact ⟨rfl, H9.out⟩
      · have kk : ((i : Int) == (k : Int)) = false := beq_eq_false_iff_ne.mpr (by omega)
        have HA := Aside0.mk (fun (S' : TS) (hk : ∀ m f, Kept S m f → Kept S' m f) => HAT.out.next ck hk)
        clear HAT
        by_cases c1 : i < l.length
        · have k1 : decide ((i : Int) < (l.length : Int)) = true := decide_eq_true (by omega)
          have k2 : ((i : Int) == (l.length : Int)) = false := beq_eq_false_iff_ne.mpr (by omega)
          obtain ⟨ad, rfl, x0, x1, x2, x3⟩ := at_T28 (Kd.C_below HC.out.1 HB.out) (i : Int) (by omega) (by omega)
          have hrd : rd_T28 l (i : Int) = l[i]'c1 := by
            unfold rd_T28
            rw [Int.toNat_natCast, List.getD_eq_getElem?_getD, List.getElem?_eq_getElem c1]
            rfl
          have hsz := hshort.2 (l[i]'c1) (List.getElem_mem c1)
          rw [hrd, Int.toNat_natCast] at x0 x1 x2 x3
          obtain ⟨⟨f0, f1, f2, f3⟩, ho⟩ : ∃ o, l[i]'c1 = o := ⟨_, rfl⟩
          rw [ho] at x0 x1 x2 x3 hsz
          have hm1 : f1.size ≤ maxLen := by unfold maxLen; have : f1.size < 1048576 := hsz.1; omega
          have hcs : S.cs.length < 1000000 := by have := H0.out.2.1; have := hshort.1; omega
          have i0 : (0 : Int) ≤ (i : Int) := by omega
          have i1 : (i : Int) < (l.length : Int) := by omega
          have hba := (Below.refl wo.heap.size wo).alloc (Nat.le_refl _) (.cells #[.int .i64 f0, .string f1, .string f2, .int .i64 f3] 28)
          have HA2 := Aside0.mk (And.intro (H0.out.1.below hba) (HB.out.trans (hba.mono HB.out.size)))
          have HM := Aside0.mk (And.intro hm1 hcs)
          clear hrd hsz ho hba hshort hm1 hcs
          by_cases d0 : f0 = 0
          · subst d0
            have hwc := MOne.write HA2.out.1 f1 f2 HM.out.1 HM.out.2
            go_wp2_with fail
            refine hwc.mono ?_
            rintro e w5 ⟨rfl, hT5, hB5⟩
            clear hwc
            have H6 := Aside0.mk (And.intro hT5 (And.intro (HA2.out.2.trans (hB5.mono H2.out.size)) (And.intro (step_len S 0 f1 f2) (HA.out (writeT S f1 f2).1 (fun m f h => h.write H0.out.1.t.good f1 f2)))))
            clear hT5 hB5
            go_wp2_with fail
            go_roundg (g0 - 1)
            case measure => have := HI.out.1; omega
            case rel => exact ⟨i + 1, (writeT S f1 f2).1, _, _, _, rfl, by first | rfl | (rw [w64_ (by omega) (by omega)]; rfl) | simp, ⟨by have := HI.out.1; omega, by omega⟩, ⟨H6.out.1, Nat.le_trans H6.out.2.2.1 (Nat.succ_le_succ H0.out.2.1), H0.out.2.2⟩, ⟨H6.out.2.2.2⟩, ⟨H6.out.2.1⟩⟩
          by_cases d1 : f0 = 1
          · subst d1
            have hwc := MOne.remove HA2.out.1 f1 HM.out.1 HM.out.2
            go_wp2_with fail
            refine hwc.mono ?_
            rintro e w5 ⟨rfl, hT5, hB5⟩
            clear hwc
            have H6 := Aside0.mk (And.intro hT5 (And.intro (HA2.out.2.trans (hB5.mono H2.out.size)) (And.intro (step_len S 1 f1 f2) (HA.out (removeT S f1).1 (fun m f h => h.remove H0.out.1.t.good f1)))))
            clear hT5 hB5
            go_wp2_with fail
            go_roundg (g0 - 1)
            case measure => have := HI.out.1; omega
            case rel => exact ⟨i + 1, (removeT S f1).1, _, _, _, rfl, by first | rfl | (rw [w64_ (by omega) (by omega)]; rfl) | simp, ⟨by have := HI.out.1; omega, by omega⟩, ⟨H6.out.1, Nat.le_trans H6.out.2.2.1 (Nat.succ_le_succ H0.out.2.1), H0.out.2.2⟩, ⟨H6.out.2.2.2⟩, ⟨H6.out.2.1⟩⟩
          · have b0 : (f0 == 0) = false := beq_eq_false_iff_ne.mpr d0
            have b1 : (f0 == 1) = false := beq_eq_false_iff_ne.mpr d1
            clear d0 d1
            go_wp2_with fail
            go_roundg (g0 - 1)
            case measure => have := HI.out.1; omega
            case rel => exact ⟨i + 1, S, _, _, _, rfl, by first | rfl | (rw [w64_ (by omega) (by omega)]; rfl) | simp, ⟨by have := HI.out.1; omega, by omega⟩, ⟨HA2.out.1, Nat.le_succ_of_le H0.out.2.1, H0.out.2.2⟩, ⟨HA.out S (fun _ _ h => h)⟩, ⟨HA2.out.2⟩⟩
        · have k2 : ((i : Int) == (l.length : Int)) = true := beq_iff_eq.mpr (by omega)
          obtain rfl : i = l.length := by omega
          have hkept : Kept S m f := by
            rcases HA.out S (fun _ _ h => h) with ⟨h1, _⟩ | ⟨_, h⟩
            · omega
            · exact h
          have HK := Aside0.mk hkept
          have hM : S.cs.length ≤ 2000 := by have := H0.out.2.1; have := hshort.1; omega
          have hml : m ≤ S.cs.length := hkept.le
          have hsn := H0.out.1.t.since (m : Int)
          have HM := Aside0.mk (And.intro hM hml)
          clear hkept hshort
          by_cases dd : S.cs.length - m ≤ 32
          case neg =>
            rw [show sinceT S (m : Int) = ([], false) from by unfold sinceT; rw [if_neg (by omega)]] at hsn
            go_wp2_with fail
            refine hsn.mono ?_
            rintro e w5 ⟨v, rfl, hR5, hB5⟩
            clear hsn
            obtain ⟨A5, c5, rfl⟩ := Kd.R_slice hR5
            have hmk := (H0.out.1.below hB5).t.mark
            have H5 := Aside0.mk (HB.out.trans (hB5.mono HB.out.size))
            obtain ⟨M, hMc⟩ : ∃ M, S.cs.length = M := ⟨_, rfl⟩
            rw [hMc] at hmk
            have k3 : decide ((32 : Int) < (M : Int) - (m : Int)) = true := decide_eq_true (by omega)
            have hw3 : wrap64 ((M : Int) - (m : Int)) = (M : Int) - (m : Int) := w64_ (by omega) (by omega)
            clear hR5 hB5
            go_wp2_with fail
            refine hmk.mono ?_
            rintro e w6 ⟨rfl, rfl⟩
            clear hmk
            go_wp2_with fail
            go_ret
            exact ⟨rfl, H5.out⟩
          rw [show sinceT S (m : Int) = (srt (S.cs.drop m), true) from by unfold sinceT; rw [if_pos (by omega), Int.toNat_natCast]] at hsn
          obtain ⟨sl, hsl⟩ : ∃ sl, srt (S.cs.drop m) = sl := ⟨_, rfl⟩
          have hslen : sl.length ≤ 32 := by rw [← hsl]; exact Nat.le_trans (srt_len _) (by rw [List.length_drop]; omega)
          have hss : SS sl := by rw [← hsl]; exact ss_srt _
          have hseen : Seen S f sl = fV S.fs := by rw [← hsl]; exact seen_all HK.out
          have hf0 : Seen S f [] = f := funext (fun q => if_neg List.not_mem_nil)
          have hpath : ∀ p ∈ sl, isP p = true := fun p hp => H0.out.1.t.good.path p (by rw [← hsl] at hp; exact List.mem_of_mem_drop ((mem_srt _ _).1 hp))
          rw [hsl] at hsn
          have HS := Aside0.mk (And.intro hss (And.intro hseen hpath))
          clear hss hseen hpath hsl dd
          go_wp2_with fail
          refine hsn.mono ?_
          rintro e w5 ⟨v, rfl, hR5, hB5⟩
          clear hsn
          obtain ⟨A5, c5, rfl⟩ := Kd.R_slice hR5
          obtain ⟨SN, hSN⟩ : ∃ SN, sl.length = SN := ⟨_, rfl⟩
          have H5 := Aside0.mk (And.intro (H0.out.1.below hB5) (And.intro hR5 (And.intro (HB.out.trans (hB5.mono HB.out.size)) (And.intro hSN H0.out.1.m.lt))))
          rw [hSN] at hslen ⊢
          have Hq := H0.out.2.2
          clear hR5 hB5 hSN
          go_wp2_with fail
          go_loopg [133] (SN + 1) (fun n v wx => ∃ (j : Nat) (q2 : Nat), v = .int .i64 (j : Int) ∧ Aside0 (j + n = SN + 1 ∧ q2 ≤ 256 + j) ∧ Aside0 (MOne wx w3.heap.size q2 (Seen S f (sl.take j)) w2.heap.size (w2.heap.size + 1) S ∧ Kd.R Kd.string 9 wx wo.heap.size (fun _ => True) (.slice A5 sl.length c5) sl) ∧ Aside0 (Below w.heap.size w wx))
          case atStart => exact ⟨0, _, rfl, ⟨by omega, by omega⟩, ⟨by rw [List.take_zero, hf0]; exact H5.out.1, H5.out.2.1⟩, ⟨H5.out.2.2.1⟩⟩
          case round =>
            obtain ⟨j, q2, rfl, HJ, HX, HBx⟩ := hrel
            obtain ⟨wx, rfl⟩ : ∃ wx : World, wx = wr := ⟨_, rfl⟩
            by_cases e1 : j < SN
            · have k3 : decide ((j : Int) < (SN : Int)) = true := decide_eq_true (by omega)
              have hjl : j < sl.length := by rw [H5.out.2.2.2.1]; exact e1
              obtain ⟨hnn, hcc, hCC⟩ := Kd.R_reads' HX.out.2
              obtain ⟨adk, rfl, y0⟩ := Kd.at_string hCC (j : Int) (by omega) (by omega)
              have hrd : rdOf ByteArray.empty sl (j : Int) = sl[j]'hjl := by
                unfold rdOf
                rw [Int.toNat_natCast, List.getD_eq_getElem?_getD, List.getElem?_eq_getElem hjl]
                rfl
              rw [hrd, Int.toNat_natCast] at y0
              have hpp := HS.out.2.2 (sl[j]'hjl) (List.getElem_mem hjl)
              have htk : sl.take (j + 1) = sl.take j ++ [sl[j]'hjl] := by rw [List.take_succ_eq_append_getElem hjl]
              have hprev : 0 < j → ∃ y, wx.cell? (adk.add (j - 1)) = some (.string y) ∧ Op.bytesLess y.toList (sl[j]'hjl).toList = true := fun hj => by
                obtain ⟨adk', he, y1⟩ := Kd.at_string hCC ((j - 1 : Nat) : Int) (by omega) (by omega)
                injection he with he
                subst he
                have hj1 : j - 1 < sl.length := by omega
                have hrd1 : rdOf ByteArray.empty sl ((j - 1 : Nat) : Int) = sl[j - 1]'hj1 := by
                  unfold rdOf
                  rw [Int.toNat_natCast, List.getD_eq_getElem?_getD, List.getElem?_eq_getElem hj1]
                  rfl
                rw [hrd1, Int.toNat_natCast] at y1
                exact ⟨_, y1, (less_ltB _ _).2 (List.pairwise_iff_getElem.1 HS.out.1 (j - 1) j hj1 hjl (by omega))⟩
              obtain ⟨x, hx⟩ : ∃ x, sl[j]'hjl = x := ⟨_, rfl⟩
              rw [hx] at y0 hpp htk hprev
              have hxm : x.size ≤ maxLen := by have := isP_size hpp; unfold maxLen; omega
              have hrdc := HX.out.1.t.read x hxm
              have hic := fun w => is_calls x w
              rw [hpp] at hic
              have HXX := Aside0.mk (And.intro htk hxm)
              have Hg := Aside0.mk (And.intro hpp HX.out.1.t.good)
              have j0 : (0 : Int) ≤ (j : Int) := by omega
              have j1 : (j : Int) < (SN : Int) := by omega
              have HP := Aside0.mk hprev
              have HJ2 := Aside0.mk (show 0 < j ∨ j = 0 by omega)
              clear hnn hcc hCC hrd hx htk hxm hpp hprev hjl
              cases hg : fget S.fs x with
              | none =>
                rw [show readT S x = ((⟨#[]⟩ : ByteArray), (4 : Int)) from by unfold readT; rw [if_pos Hg.out.1, hg]] at hrdc
                have hfv : fV S.fs x = none := by unfold fV; rw [hg]; rfl
                have HF := Aside0.mk hfv
                clear hg hfv
                rcases HJ2.out with hj | hj
                · obtain ⟨y, y1, y2⟩ := HP.out hj
                  have k5 : decide ((0 : Int) < (j : Int)) = true := decide_eq_true (by omega)
                  have k6 : (0 : Int) ≤ (j : Int) - 1 := by omega
                  have k7 : (1 : Int) ≤ (j : Int) := by omega
                  have k8 : (j : Int) - 1 < (SN : Int) := by omega
                  have k9 : ((j : Int) - 1).toNat = j - 1 := by omega
                  go_wp2_with fail
                  refine hrdc.mono ?_
                  rintro e wa ⟨rfl, ⟨na, rfl⟩⟩
                  clear hrdc
                  go_wp2_with fail
                  refine (hic _).mono ?_
                  rintro e wb ⟨rfl, ⟨nb, hwb⟩⟩
                  clear hic
                  have hwb2 : wb = wx.drewN (na + nb) := by rw [hwb]; first | rfl | simp
                  subst hwb2
                  clear hwb
                  have hp := (HX.out.1.below (pw_below_drewN (Below.refl wx.heap.size wx) (na + nb))).del x HXX.out.2 0
                  obtain ⟨w9, hrun, hM9, hB9, hg9⟩ := hp
                  have H9 := Aside0.mk (And.intro hM9 (And.intro (HBx.out.trans ((pw_below_drewN (Below.refl wx.heap.size wx) (na + nb)).mono HBx.out.size)) (And.intro hB9 (row_grown (Kd.R_below HX.out.2 (pw_below_drewN (Below.refl wx.heap.size wx) (na + nb))) hg9 H5.out.2.2.2.2))))
                  clear hM9 hB9 hg9
                  go_wp2_with fail
                  go_roundg (gk - 1)
                  case measure => have := HJ.out; omega
                  case rel => exact ⟨j + 1, q2, by first | rfl | (rw [w64_ (by omega) (by omega)]; rfl) | simp, ⟨by have := HJ.out; omega, by have := HJ.out; omega⟩, ⟨by rw [HXX.out.1, seen_snoc, HF.out]; exact H9.out.1, H9.out.2.2.2⟩, ⟨H9.out.2.1.trans (H9.out.2.2.1.mono H2.out.size)⟩⟩
                · have k5 : decide ((0 : Int) < (j : Int)) = false := decide_eq_false (by omega)
                  have k5n : decide (0 < j) = false := decide_eq_false (by omega)
                  have k5m : ¬ 0 < j := by omega
                  clear hj
                  go_wp2_with fail
                  refine hrdc.mono ?_
                  rintro e wa ⟨rfl, ⟨na, rfl⟩⟩
                  clear hrdc
                  go_wp2_with fail
                  refine (hic _).mono ?_
                  rintro e wb ⟨rfl, ⟨nb, hwb⟩⟩
                  clear hic
                  have hwb2 : wb = wx.drewN (na + nb) := by rw [hwb]; first | rfl | simp
                  subst hwb2
                  clear hwb
                  have hp := (HX.out.1.below (pw_below_drewN (Below.refl wx.heap.size wx) (na + nb))).del x HXX.out.2 0
                  obtain ⟨w9, hrun, hM9, hB9, hg9⟩ := hp
                  have H9 := Aside0.mk (And.intro hM9 (And.intro (HBx.out.trans ((pw_below_drewN (Below.refl wx.heap.size wx) (na + nb)).mono HBx.out.size)) (And.intro hB9 (row_grown (Kd.R_below HX.out.2 (pw_below_drewN (Below.refl wx.heap.size wx) (na + nb))) hg9 H5.out.2.2.2.2))))
                  clear hM9 hB9 hg9
                  go_wp2_with fail
                  go_roundg (gk - 1)
                  case measure => have := HJ.out; omega
                  case rel => exact ⟨j + 1, q2, by first | rfl | (rw [w64_ (by omega) (by omega)]; rfl) | simp, ⟨by have := HJ.out; omega, by have := HJ.out; omega⟩, ⟨by rw [HXX.out.1, seen_snoc, HF.out]; exact H9.out.1, H9.out.2.2.2⟩, ⟨H9.out.2.1.trans (H9.out.2.2.1.mono H2.out.size)⟩⟩
              | some s =>
                rw [show readT S x = (s, (0 : Int)) from by unfold readT; rw [if_pos Hg.out.1, hg]] at hrdc
                have hfv : fV S.fs x = some (.string s) := by unfold fV; rw [hg]; rfl
                have HF := Aside0.mk hfv
                clear hg hfv
                rcases HJ2.out with hj | hj
                · obtain ⟨y, y1, y2⟩ := HP.out hj
                  have k5 : decide ((0 : Int) < (j : Int)) = true := decide_eq_true (by omega)
                  have k6 : (0 : Int) ≤ (j : Int) - 1 := by omega
                  have k7 : (1 : Int) ≤ (j : Int) := by omega
                  have k8 : (j : Int) - 1 < (SN : Int) := by omega
                  have k9 : ((j : Int) - 1).toNat = j - 1 := by omega
                  go_wp2_with fail
                  refine hrdc.mono ?_
                  rintro e wa ⟨rfl, ⟨na, rfl⟩⟩
                  clear hrdc
                  go_wp2_with fail
                  refine (hic _).mono ?_
                  rintro e wb ⟨rfl, ⟨nb, hwb⟩⟩
                  clear hic
                  have hwb2 : wb = wx.drewN (na + nb) := by rw [hwb]; first | rfl | simp
                  subst hwb2
                  clear hwb
                  have hp := (HX.out.1.below (pw_below_drewN (Below.refl wx.heap.size wx) (na + nb))).put (by have := HJ.out; omega) x HXX.out.2 (.string s)
                  obtain ⟨w9, hrun, hM9, hB9, hg9⟩ := hp
                  have H9 := Aside0.mk (And.intro hM9 (And.intro (HBx.out.trans ((pw_below_drewN (Below.refl wx.heap.size wx) (na + nb)).mono HBx.out.size)) (And.intro hB9 (row_grown (Kd.R_below HX.out.2 (pw_below_drewN (Below.refl wx.heap.size wx) (na + nb))) hg9 H5.out.2.2.2.2))))
                  clear hM9 hB9 hg9
                  go_wp2_with fail
                  go_roundg (gk - 1)
                  case measure => have := HJ.out; omega
                  case rel => exact ⟨j + 1, q2 + 1, by first | rfl | (rw [w64_ (by omega) (by omega)]; rfl) | simp, ⟨by have := HJ.out; omega, by have := HJ.out; omega⟩, ⟨by rw [HXX.out.1, seen_snoc, HF.out]; exact H9.out.1, H9.out.2.2.2⟩, ⟨H9.out.2.1.trans (H9.out.2.2.1.mono H2.out.size)⟩⟩
                · have k5 : decide ((0 : Int) < (j : Int)) = false := decide_eq_false (by omega)
                  have k5n : decide (0 < j) = false := decide_eq_false (by omega)
                  have k5m : ¬ 0 < j := by omega
                  clear hj
                  go_wp2_with fail
                  refine hrdc.mono ?_
                  rintro e wa ⟨rfl, ⟨na, rfl⟩⟩
                  clear hrdc
                  go_wp2_with fail
                  refine (hic _).mono ?_
                  rintro e wb ⟨rfl, ⟨nb, hwb⟩⟩
                  clear hic
                  have hwb2 : wb = wx.drewN (na + nb) := by rw [hwb]; first | rfl | simp
                  subst hwb2
                  clear hwb
                  have hp := (HX.out.1.below (pw_below_drewN (Below.refl wx.heap.size wx) (na + nb))).put (by have := HJ.out; omega) x HXX.out.2 (.string s)
                  obtain ⟨w9, hrun, hM9, hB9, hg9⟩ := hp
                  have H9 := Aside0.mk (And.intro hM9 (And.intro (HBx.out.trans ((pw_below_drewN (Below.refl wx.heap.size wx) (na + nb)).mono HBx.out.size)) (And.intro hB9 (row_grown (Kd.R_below HX.out.2 (pw_below_drewN (Below.refl wx.heap.size wx) (na + nb))) hg9 H5.out.2.2.2.2))))
                  clear hM9 hB9 hg9
                  go_wp2_with fail
                  go_roundg (gk - 1)
                  case measure => have := HJ.out; omega
                  case rel => exact ⟨j + 1, q2 + 1, by first | rfl | (rw [w64_ (by omega) (by omega)]; rfl) | simp, ⟨by have := HJ.out; omega, by have := HJ.out; omega⟩, ⟨by rw [HXX.out.1, seen_snoc, HF.out]; exact H9.out.1, H9.out.2.2.2⟩, ⟨H9.out.2.1.trans (H9.out.2.2.1.mono H2.out.size)⟩⟩
            · have k3 : decide ((j : Int) < (SN : Int)) = false := decide_eq_false (by omega)
              have hjl : sl.take j = sl := List.take_of_length_le (by rw [H5.out.2.2.2.1]; omega)
              have hMo := HX.out.1
              rw [hjl, HS.out.2.1] at hMo
              have hls := hMo.t.listed ⟨#[]⟩
              rw [list_all] at hls
              have H7 := Aside0.mk hMo
              clear hMo hjl
              go_wp2_with fail
              refine hls.mono ?_
              rintro e w6 ⟨v, rfl, hR6, hB6⟩
              clear hls
              have hM6 := H7.out.below hB6
              obtain ⟨A6, c6, rfl⟩ := Kd.R_slice hR6
              have hlen := hM6.m.len Try.underlying48 3 (S.fs.map (·.1)) (fV_keys S.fs hM6.t.good.rise).1 (fV_keys S.fs hM6.t.good.rise).2
              have hln := hM6.t.len
              have hNle := hM6.t.good.few
              rw [List.length_map] at hlen ⊢
              obtain ⟨N, hN⟩ : ∃ N, S.fs.length = N := ⟨_, rfl⟩
              rw [hN] at hlen hln hNle ⊢
              have n3 : ((N : Int) != (N : Int)) = false := bne_self_eq_false _
              have H8 := Aside0.mk (And.intro hM6 (And.intro hR6 (And.intro (HBx.out.trans (hB6.mono HBx.out.size)) hN)))
              clear hM6 hR6 hB6 hN
              go_wp2_with fail
              refine hln.mono ?_
              rintro e w7 ⟨rfl, rfl⟩
              clear hln
              go_wp2_with fail
              go_loopg [191] (N + 1) (fun n v wy => ∃ (j : Nat), v = .int .i64 (j : Int) ∧ Aside0 (j + n = N + 1) ∧ Aside0 (Below w7.heap.size w7 wy))
              case atStart => exact ⟨0, rfl, ⟨by omega⟩, ⟨Below.refl _ _⟩⟩
              case round =>
                obtain ⟨j2, rfl, ⟨hj2⟩, HY⟩ := hrel
                obtain ⟨wy, rfl⟩ : ∃ wy : World, wy = wr := ⟨_, rfl⟩
                by_cases g1 : j2 < N
                · have k4 : decide ((j2 : Int) < (N : Int)) = true := decide_eq_true (by omega)
                  have hMy := H8.out.1.below HY.out
                  obtain ⟨hnn, hcc, hCC⟩ := Kd.R_reads' (Kd.R_below H8.out.2.1 HY.out)
                  have hkl : j2 < S.fs.length := by rw [H8.out.2.2.2]; exact g1
                  obtain ⟨adk, rfl, y0⟩ := Kd.at_string hCC (j2 : Int) (by omega) (by rw [List.length_map]; omega)
                  have hrd : rdOf ByteArray.empty (S.fs.map (·.1)) (j2 : Int) = (S.fs[j2]'hkl).1 := by
                    unfold rdOf
                    rw [Int.toNat_natCast, List.getD_eq_getElem?_getD, List.getElem?_map, List.getElem?_eq_getElem hkl]
                    rfl
                  rw [hrd, Int.toNat_natCast] at y0
                  obtain ⟨hrk, hsk⟩ := readT_key hMy.t.good hkl
                  have hgk := fget_of_mem hMy.t.good.rise (p := (S.fs[j2]'hkl).1) (s := (S.fs[j2]'hkl).2) (List.getElem_mem hkl)
                  obtain ⟨⟨x, u⟩, hxu⟩ : ∃ y, S.fs[j2]'hkl = y := ⟨_, rfl⟩
                  rw [hxu] at y0 hrk hsk hgk
                  have hxm : x.size ≤ maxLen := by have : x.size ≤ 60 := hsk; unfold maxLen; omega
                  have hr1 := hMy.t.read x hxm
                  replace hrk : readT S x = (u, 0) := hrk
                  rw [hrk] at hr1
                  have hlk0 := fun n => (hMy.below (pw_below_drewN (Below.refl _ _) n)).m.look_ok Try.underlying48 (Try.zeroValue9 _) hxm
                  have hfx : fV S.fs x = some (.string u) := by unfold fV; rw [show fget S.fs x = some u from hgk]; rfl
                  have hlk : ∀ n, (Instr.lookup 48 (.map (some w3.heap.size)) (.string x) true).run Try.prog (wy.drewN n) = .ok (.tuple #[.string u, .bool true]) (wy.drewN n) := fun n => by have := hlk0 n; rw [hfx] at this; exact this
                  clear hlk0
                  have eu : (u.toList != u.toList) = false := bne_self_eq_false _
                  have j0 : (0 : Int) ≤ (j2 : Int) := by omega
                  have j1 : (j2 : Int) < (N : Int) := by omega
                  have HMy := Aside0.mk hMy
                  clear hrd hxu hnn hcc hCC hsk hxm hrk hgk hfx hMy hkl
                  go_wp2_with fail
                  refine hr1.mono ?_
                  rintro e wa ⟨rfl, ⟨na, rfl⟩⟩
                  have hlk2 := hlk na
                  clear hr1 hlk
                  go_wp2_with fail
                  go_roundg (gk - 1)
                  case measure => omega
                  case rel => exact ⟨j2 + 1, by first | rfl | (rw [w64_ (by omega) (by omega)]; rfl) | simp, ⟨by omega⟩, ⟨HY.out.trans ((pw_below_drewN (Below.refl _ _) _).mono HY.out.size)⟩⟩
                · have k4 : decide ((j2 : Int) < (N : Int)) = false := decide_eq_false (by omega)
                  have H9 := Aside0.mk (H8.out.2.2.1.trans (HY.out.mono H8.out.2.2.1.size))
                  go_wp2_with fail
                  go_ret
                  exact ⟨rfl, H9.out⟩
end Go.Proofs.Ytkldaghhfnpcjaa.P
