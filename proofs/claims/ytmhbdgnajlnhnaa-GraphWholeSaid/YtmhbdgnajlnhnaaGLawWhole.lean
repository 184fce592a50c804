/- GraphWhole: the law's walk. -/
import Derived.Test.YtmhbdgnajlnhnaaGLawBase
import Derived.Test.YtmhbdgnajlnhnaaPlCyc
import Derived.Deep.RegionHeld3
namespace Go.Proofs.Ytmhbdgnajlnhnaa.P
open Go.RowKit Go.Maps Go.MapKept Go.ChangeMaps Go.Proofs.YtmhbdgnajlnhnaaW.PrintWords Go.Proofs.YtmhbdgnajlnhnaaW.PrintLast Go.Proofs.YtmhbdgnajlnhnaaW.PrintMore Go.Proofs.Ytmhbdgnajlnhnaa.Pl
set_option linter.unusedVariables false
set_option linter.unusedSimpArgs false
set_option maxRecDepth 1000000 in
set_option maxHeartbeats 4000000 in
theorem whole_walk (A0 : Option Addr) (c0 : Nat) (E : List S45) (A1 : Option Addr) (c1 : Nat) (names : List ByteArray) (w : World) (h0 : Kd.C k45 w A0 E.length E) (hc0 : E.length ≤ c0) (hE : ∀ e, e ∈ E → e.f0.size ≤ maxLen ∧ e.f1.size ≤ maxLen) (h1 : Kd.C Kd.string w A1 names.length names) (hc1 : names.length ≤ c1) (hn : ∀ s, s ∈ names → s.size ≤ maxLen) :
    Calls Try.prog 7 #[.slice A0 E.length c0, .slice A1 names.length c1] w fun e w' => e = .returned (.bool true) ∧ Below w.heap.size w w' := by
  have hwk := works_calls w
  have hu29 := Try.underlying29
  have HC := Aside0.mk (And.intro h0 h1)
  have HS := Aside0.mk (And.intro hE hn)
  clear h0 h1 hE hn
  go_enter Try.func7, Try.ntmps7
  go_wp2_with fail
  refine hwk.mono ?_
  rintro e w1 ⟨rfl, hB1⟩
  clear hwk
  have hlg := long_calls A0 c0 E A1 c1 names (Kd.C_below HC.out.1 hB1) hc0 (Kd.C_below HC.out.2 hB1) hc1
  by_cases hl : E.length > 40 ∨ names.length > 20
  · rw [decide_eq_true hl] at hlg
    clear hl
    go_wp2_with fail
    refine hlg.mono ?_
    rintro e w2 ⟨rfl, ⟨n2, rfl⟩⟩
    clear hlg
    go_wp2_with fail
    go_ret
    exact ⟨rfl, pw_below_drewN hB1 n2⟩
  rw [decide_eq_false hl] at hlg
  have d2 : E.length ≤ 40 := by omega
  have hnl : names.length ≤ 20 := by omega
  go_wp2_with fail
  refine hlg.mono ?_
  rintro e w2 ⟨rfl, ⟨n2, rfl⟩⟩
  clear hlg
  have hB2 : Below w.heap.size w (w1.drewN n2) := pw_below_drewN hB1 n2
  obtain ⟨wp, hwp⟩ : ∃ wp, w1.drewN n2 = wp := ⟨_, rfl⟩
  rw [hwp] at hB2
  have hmd := made_calls (w := wp) A0 c0 E A1 c1 names (Kd.C_below HC.out.1 hB2) (Kd.C_below HC.out.2 hB2) HS.out.1 HS.out.2 (by omega) (by omega)
  have HB2 := Aside0.mk hB2
  try rw [hwp]
  clear hl hB1 hB2
  go_wp2_with fail
  refine hmd.mono ?_
  rintro e w3 ⟨q, rfl, r3, hM3, hB3⟩
  clear hmd
  have hB13 := HB2.out.trans (hB3.mono HB2.out.size)
  have hGok := madeG_ok HS.out.1 HS.out.2
  have hGl := madeG_len E names
  obtain ⟨G, hG⟩ : ∃ G, madeG E names = G := ⟨_, rfl⟩
  rw [hG] at hM3 hGok hGl
  have HT : Aside0 (∀ W, Below w3.heap.size w3 W → GMem W wp.heap.size r3 q G) := ⟨fun W hb => hM3.below hb⟩
  have HBW : Aside0 (Below w.heap.size w w3) := ⟨hB13⟩
  have HG := Aside0.mk hGok
  have hnsl : G.ns.length ≤ 1000 := by omega
  clear hG hM3 hB3 hB13 hGok hwp hGl
  obtain ⟨O, C, k, hO, hC, hT, hF⟩ := whole_parts HG.out
  have hod := order_calls (HT.out w3 (Below.refl _ _))
  have hcl := fun W (hb : Below w3.heap.size w3 W) => cycle_calls (HT.out W hb)
  have hcle := cyc_getD HG.out
  unfold OrderIs at hod
  unfold CycleIs at hcl
  rw [hO] at hod
  rw [hC] at hcle
  simp only [hC] at hcl
  have HCL := Aside0.mk hcl
  clear hcl hO hC
  cases k with
  | true =>
    obtain ⟨hl, hms, hout, hsub⟩ := hT rfl
    have HO := Aside0.mk (And.intro hms (And.intro hout hsub))
    have HL := Aside0.mk hl
    clear hT hF hms hout hsub hcle
    go_wp2_with fail
    refine hod.mono ?_
    rintro e w4 ⟨v4, rfl, hR4, hB4⟩
    clear hod
    obtain ⟨A4, c4, rfl, hc4, hK4⟩ := Kd.R_reads hR4
    rw [hl] at hc4 hK4 ⊢
    have hcl := HCL.out w4 hB4
    simp only [if_true, Option.isSome_none, Option.getD_none] at hcl
    have H4 := Aside0.mk (And.intro hB4 hK4)
    clear hR4 hB4 hK4 HCL
    go_wp2_with fail
    refine hcl.mono ?_
    rintro e w5 ⟨v5, rfl, hR5, hB5⟩
    clear hcl
    obtain ⟨A5, c5, rfl, hc5, hK5⟩ := Kd.R_reads hR5
    have hB35 := H4.out.1.trans (hB5.mono H4.out.1.size)
    have hns := names_calls (HT.out w5 hB35)
    have H5 := Aside0.mk (And.intro hB35 (Kd.C_below H4.out.2 hB5))
    clear hR5 hB5 hK5 hB35 H4
    clear hl
    go_wp2_with fail
    refine hns.mono ?_
    rintro e w6 ⟨v6, rfl, hR6, _, hB6⟩
    clear hns
    obtain ⟨A6, c6, rfl, hc6, hK6⟩ := Kd.R_reads hR6
    have hB36 := H5.out.1.trans (hB6.mono H5.out.1.size)
    have HK : Aside0 (∀ W, Below w6.heap.size w6 W → GMem W wp.heap.size r3 q G ∧ Kd.C Kd.string W A4 G.ns.length O) := ⟨fun W hb =>
      ⟨HT.out W (hB36.trans (hb.mono hB36.size)), Kd.C_below H5.out.2 (hB6.trans (hb.mono hB6.size))⟩⟩
    have HBZ : Aside0 (Below w.heap.size w w6) := ⟨HBW.out.trans (hB36.mono HBW.out.size)⟩
    clear hR6 hK6 hB6 hB36 H5 HT HBW
    go_wp2_with fail
    go_loopg [65] (G.ns.length + 1) (fun n v wr => ∃ i : Nat, v = .int .i64 (i : Int) ∧ Aside0 (i + n = G.ns.length + 1) ∧ Aside0 (Below w6.heap.size w6 wr))
    case atStart => exact ⟨0, rfl, ⟨by omega⟩, ⟨Below.refl _ _⟩⟩
    case round =>
      obtain ⟨i, rfl, ⟨hn⟩, HR⟩ := hrel
      by_cases ci : i < G.ns.length
      case neg =>
        have cib : decide ((i : Int) < (G.ns.length : Int)) = false := decide_eq_false (by omega)
        have hcn := cloneS_calls A4 c4 O (by rw [HL.out]; exact (HK.out wr HR.out).2) (by rw [HL.out]; omega)
        rw [HL.out] at hcn
        go_wp2_with fail
        refine hcn.mono ?_
        rintro e w7 ⟨v7, rfl, hR7, hB7⟩
        clear hcn
        have hso := sort_calls hR7 (by rw [HL.out]; omega)
        rw [HO.out.1] at hso
        have H7 := Aside0.mk (And.intro hR7 hB7)
        clear hR7 hB7
        go_wp2_with fail
        refine hso.mono ?_
        rintro e w8 ⟨rfl, hR8, hg8⟩
        clear hso
        have hB8 := below_sorted H7.out.2 H7.out.1 hg8
        have hB68 := HR.out.trans (hB8.mono HR.out.size)
        obtain ⟨A8, c8, rfl, hc8, hK8⟩ := Kd.R_reads hR8
        have hns := names_calls (HK.out w8 hB68).1
        have H8 := Aside0.mk (And.intro hB68 hK8)
        clear hR8 hg8 hB8 hB68 hK8 H7 HR
        go_wp2_with fail
        refine hns.mono ?_
        rintro e w9 ⟨v9, rfl, hR9, _, hB9⟩
        clear hns
        obtain ⟨A9, c9, rfl, hc9, hK9⟩ := Kd.R_reads hR9
        have heq := equalS_calls A8 c8 A9 c9 G.ns (Kd.C_below H8.out.2 hB9) hc8 hK9 hc9 (by omega)
        have H9 := Aside0.mk (H8.out.1.trans (hB9.mono H8.out.1.size))
        clear hR9 hK9 hB9 H8
        go_wp2_with fail
        refine heq.mono ?_
        rintro e w10 ⟨rfl, ⟨n10, rfl⟩⟩
        clear heq
        obtain ⟨w10, hw10⟩ : ∃ w10, w9.drewN n10 = w10 := ⟨_, rfl⟩
        have HE : Aside0 (Below w.heap.size w w10) := ⟨by rw [← hw10]; exact pw_below_drewN (HBZ.out.trans (H9.out.mono HBZ.out.size)) n10⟩
        rw [hw10]
        clear hw10 H9
        go_wp2_with fail
        go_loopg [100] 1 (fun n v wr => v = .int .i64 0 ∧ Aside0 (0 < n) ∧ Aside0 (Below w.heap.size w wr))
        case atStart => exact ⟨rfl, ⟨by omega⟩, HE⟩
        case round =>
          obtain ⟨rfl, _, HR⟩ := hrel
          clear HE
          go_wp2_with fail
          go_ret
          exact ⟨rfl, HR.out⟩
      have cib : decide ((i : Int) < (G.ns.length : Int)) = true := decide_eq_true (by omega)
      have cio : i < O.length := by rw [HL.out]; exact ci
      obtain ⟨ad, had, hcell⟩ := Kd.at_string (HK.out wr HR.out).2 (i : Int) (Int.natCast_nonneg _) (by omega)
      subst had
      rw [Int.toNat_natCast, get_rd cio] at hcell
      have hoi := HO.out.2.1 i cio
      have hin := HO.out.2.2 _ (List.getElem_mem cio)
      obtain ⟨b, hbe⟩ : ∃ b, O[i] = b := ⟨_, rfl⟩
      rw [hbe] at hcell hoi hin
      have hou := out_calls (HK.out wr HR.out).1 b (HG.out.short b hin)
      have hol := out_len (HK.out wr HR.out).1 b
      obtain ⟨F, hFe⟩ : ∃ F, G.out b = F := ⟨_, rfl⟩
      rw [hFe] at hou hol hoi
      have HOI := Aside0.mk hoi
      have htl : (O.take i).length = i := by rw [List.length_take]; omega
      have htk := (cutS (some ad) c4 O i (by omega) (by rw [HL.out]; exact hc4)).2
      rw [HL.out] at htk
      obtain ⟨gm, rfl⟩ : ∃ gm : Nat, gm = gk := ⟨_, rfl⟩
      clear hbe hFe hin hoi
      go_wp2_with fail
      refine hou.mono ?_
      rintro e w7 ⟨v7, rfl, hR7, _, hB7⟩
      clear hou
      obtain ⟨A7, c7, rfl, hc7, hK7⟩ := Kd.R_reads hR7
      have HK7 : Aside0 (Below w6.heap.size w6 w7 ∧ Kd.C Kd.string w7 A7 F.length F) := ⟨HR.out.trans (hB7.mono HR.out.size), hK7⟩
      clear hR7 hK7 hB7 HR hcell
      go_wp2_with fail
      go_loopg [74] (F.length + 1) (fun n v wr => ∃ j : Nat, v = .int .i64 (j : Int) ∧ Aside0 (j + n = F.length + 1) ∧ Aside0 (Below w7.heap.size w7 wr))
      case atStart => exact ⟨0, rfl, ⟨by omega⟩, ⟨Below.refl _ _⟩⟩
      case round =>
        obtain ⟨j, rfl, ⟨hn2⟩, HR⟩ := hrel
        have HB := Aside0.mk (HK7.out.1.trans (HR.out.mono HK7.out.1.size))
        by_cases cj : j < F.length
        case neg =>
          have cjb : decide ((j : Int) < (F.length : Int)) = false := decide_eq_false (by omega)
          clear HR HK7 htk
          go_wp2_with fail
          go_roundg (gm - 1)
          case measure => omega
          case rel => exact ⟨i + 1, by first | rfl | (rw [w64_ (by omega) (by omega)]; rfl) | simp, ⟨by omega⟩, HB⟩
        have cjb : decide ((j : Int) < (F.length : Int)) = true := decide_eq_true (by omega)
        obtain ⟨ad7, had7, hcell⟩ := Kd.at_string (Kd.C_below HK7.out.2 HR.out) (j : Int) (Int.natCast_nonneg _) (by omega)
        subst had7
        rw [Int.toNat_natCast, get_rd cj] at hcell
        have hyes := hasB_iff.2 (HOI.out _ (List.getElem_mem cj))
        obtain ⟨x, hxe⟩ : ∃ x, F[j] = x := ⟨_, rfl⟩
        rw [hxe] at hcell hyes
        have hct := contains_calls (some ad) c4 (O.take i) x (by have := Kd.C_take (m := i) (show Kd.C Kd.string wr (some ad) O.length O by rw [HL.out]; exact (HK.out wr HB.out).2) (by omega); first | exact this | (rw [htl]; exact this)) (by omega) (by omega)
        rw [htl, hyes] at hct
        clear hxe hyes
        go_wp2_with fail
        refine hct.mono ?_
        rintro e w8 ⟨rfl, ⟨n8, rfl⟩⟩
        clear hct
        have HX := Aside0.mk (pw_below_drewN HR.out n8)
        clear HR HB
        go_wp2_with fail
        go_roundg (gk - 1)
        case measure => omega
        case rel => exact ⟨j + 1, by first | rfl | (rw [w64_ (by omega) (by omega)]; rfl) | simp, ⟨by omega⟩, HX⟩
  | false =>
    obtain ⟨rfl, hCy, hsub⟩ := hF rfl
    have HO := Aside0.mk (And.intro hCy hsub)
    simp only [Bool.false_eq_true, if_false, Option.getD_some] at hcle
    have hpos := hCy.pos
    clear hT hF hCy hsub
    go_wp2_with fail
    refine hod.mono ?_
    rintro e w4 ⟨v4, rfl, hR4, hB4⟩
    clear hod
    obtain ⟨A4, c4, rfl, hc4, hK4⟩ := Kd.R_reads hR4
    have hcl := HCL.out w4 hB4
    simp only [Bool.false_eq_true, if_false, Option.isSome_some, Option.getD_some] at hcl
    have H4 := Aside0.mk (And.intro hB4 hK4)
    clear hR4 hB4 hK4 HCL
    go_wp2_with fail
    refine hcl.mono ?_
    rintro e w5 ⟨v5, rfl, hR5, hB5⟩
    clear hcl
    obtain ⟨A5, c5, rfl, hc5, hK5⟩ := Kd.R_reads hR5
    have hB35 := H4.out.1.trans (hB5.mono H4.out.1.size)
    have hns := names_calls (HT.out w5 hB35)
    have H5 := Aside0.mk (And.intro hB35 (And.intro (Kd.C_below H4.out.2 hB5) hK5))
    clear hR5 hB5 hK5 hB35 H4
    have hp1 : decide ((0 : Int) < (C.length : Int)) = true := decide_eq_true (by omega)
    go_wp2_with fail
    refine hns.mono ?_
    rintro e w6 ⟨v6, rfl, hR6, _, hB6⟩
    clear hns
    obtain ⟨A6, c6, rfl, hc6, hK6⟩ := Kd.R_reads hR6
    have hB36 := H5.out.1.trans (hB6.mono H5.out.1.size)
    have HK : Aside0 (∀ W, Below w6.heap.size w6 W → GMem W wp.heap.size r3 q G ∧ Kd.C Kd.string W A5 C.length C ∧ Kd.C Kd.string W A4 0 []) := ⟨fun W hb =>
      ⟨HT.out W (hB36.trans (hb.mono hB36.size)), Kd.C_below H5.out.2.2 (hB6.trans (hb.mono hB6.size)), Kd.C_below H5.out.2.1 (hB6.trans (hb.mono hB6.size))⟩⟩
    have HBZ : Aside0 (Below w.heap.size w w6) := ⟨HBW.out.trans (hB36.mono HBW.out.size)⟩
    clear hR6 hK6 hB6 hB36 H5 HT HBW
    go_wp2_with fail
    clear hp1
    go_loopg [65] 1 (fun n v wr => v = .int .i64 0 ∧ Aside0 (0 < n) ∧ Aside0 (Below w6.heap.size w6 wr))
    case atStart => exact ⟨rfl, ⟨by omega⟩, ⟨Below.refl _ _⟩⟩
    case round =>
      obtain ⟨rfl, _, HR⟩ := hrel
      have hcn := cloneS_calls A4 c4 [] (HK.out wr HR.out).2.2 (by simp)
      go_wp2_with fail
      refine hcn.mono ?_
      rintro e w7 ⟨v7, rfl, hR7, hB7⟩
      clear hcn
      have hso := sort_calls hR7 (by simp)
      have H7 := Aside0.mk (And.intro hR7 hB7)
      clear hR7 hB7
      go_wp2_with fail
      refine hso.mono ?_
      rintro e w8 ⟨rfl, hR8, hg8⟩
      clear hso
      have hB8 := below_sorted H7.out.2 H7.out.1 hg8
      have H8 := Aside0.mk (HR.out.trans (hB8.mono HR.out.size))
      clear hR8 hg8 hB8 H7 HR
      go_wp2_with fail
      go_loopg [100] (C.length + 1) (fun n v wr => ∃ i : Nat, v = .int .i64 (i : Int) ∧ Aside0 (i + n = C.length + 1) ∧ Aside0 (Below w6.heap.size w6 wr))
      case atStart => exact ⟨0, rfl, ⟨by omega⟩, H8⟩
      case round =>
        obtain ⟨i, rfl, ⟨hn⟩, HR⟩ := hrel
        clear H8
        by_cases ci : i < C.length
        case neg =>
          have cib : decide ((i : Int) < (C.length : Int)) = false := decide_eq_false (by omega)
          have HE : Aside0 (Below w.heap.size w wr) := ⟨HBZ.out.trans (HR.out.mono HBZ.out.size)⟩
          clear HR
          go_wp2_with fail
          go_ret
          exact ⟨rfl, HE.out⟩
        have cib : decide ((i : Int) < (C.length : Int)) = true := decide_eq_true (by omega)
        obtain ⟨nx, hnx⟩ : ∃ nx, (i + 1) % C.length = nx := ⟨_, rfl⟩
        have cn : nx < C.length := by rw [← hnx]; exact Nat.mod_lt _ hpos
        have hwr : IntKind.i64.wrap ((i : Int) + 1) = (i : Int) + 1 := by rw [IntKind.wrap_i64]; omega
        have hmod : ((i : Int) + 1).tmod (C.length : Int) = (nx : Int) := by rw [Int.tmod_eq_emod_of_nonneg (by omega), ← hnx]; rfl
        have hne : ((C.length : Int) == 0) = false := beq_eq_false_iff_ne.2 (by omega)
        obtain ⟨ad, had, hcell⟩ := Kd.at_string (HK.out wr HR.out).2.1 (i : Int) (Int.natCast_nonneg _) (by omega)
        subst had
        obtain ⟨ad1, had1, hcelln⟩ := Kd.at_string (HK.out wr HR.out).2.1 (nx : Int) (Int.natCast_nonneg _) (by omega)
        injection had1 with had1
        subst had1
        obtain ⟨ad2, had2, hcell0⟩ := Kd.at_string (HK.out wr HR.out).2.1 (0 : Int) (Int.le_refl _) (by omega)
        injection had2 with had2
        subst had2
        have q0 := get_rd (l := C) (i := 0) hpos
        rw [show ((0 : Nat) : Int) = 0 from rfl] at q0
        rw [Int.toNat_natCast, get_rd ci] at hcell
        rw [Int.toNat_natCast, get_rd cn] at hcelln
        rw [q0, show (0 : Int).toNat = 0 from rfl] at hcell0
        have hnew := hasB_no' (HO.out.1.once i ci)
        have hnext := hasB_iff.2 (HO.out.1.next i ci)
        have hfst := HO.out.1.first i ci
        have hch := HO.out.1.chord i ci
        have hin := HO.out.2 _ (List.getElem_mem ci)
        have hnxe : C[(i + 1) % C.length]'(Nat.mod_lt _ (by omega)) = C[nx] := by simp only [hnx]
        rw [hnxe] at hnext
        simp only [hnxe] at hch
        obtain ⟨x, hxe⟩ : ∃ x, C[i] = x := ⟨_, rfl⟩
        obtain ⟨y, hye⟩ : ∃ y, C[nx] = y := ⟨_, rfl⟩
        obtain ⟨z, hze⟩ : ∃ z, C[0] = z := ⟨_, rfl⟩
        rw [hxe] at hcell hnew hnext hfst hch hin
        rw [hye] at hcelln hnext hch
        rw [hze] at hcell0 hfst
        have HCH := Aside0.mk hch
        have htl : (C.take i).length = i := by rw [List.length_take]; omega
        have htk := (cutS (some ad) c5 C i (by omega) hc5).2
        have hct := contains_calls (some ad) c5 (C.take i) x (by have := Kd.C_take (m := i) (HK.out wr HR.out).2.1 (by omega); first | exact this | (rw [htl]; exact this)) (by omega) (by omega)
        rw [htl, hnew] at hct
        have hxs := HG.out.short x hin
        obtain ⟨gm, rfl⟩ : ∃ gm : Nat, gm = gk := ⟨_, rfl⟩
        clear hxe hye hze hnxe hch hin hnew hnx q0
        go_wp2_with fail
        refine hct.mono ?_
        rintro e w9 ⟨rfl, ⟨n9, rfl⟩⟩
        clear hct
        obtain ⟨w10, hw10⟩ : ∃ w10, wr.drewN n9 = w10 := ⟨_, rfl⟩
        have hB10 : Below wr.heap.size wr w10 := by rw [← hw10]; exact pw_below_drewN (Below.refl _ _) n9
        rw [hw10]
        have hou := out_calls (HK.out w10 (HR.out.trans (hB10.mono HR.out.size))).1 x hxs
        have hol := out_len (HK.out w10 (HR.out.trans (hB10.mono HR.out.size))).1 x
        obtain ⟨F, hFe⟩ : ∃ F, G.out x = F := ⟨_, rfl⟩
        have HFE := Aside0.mk hFe
        rw [hFe] at hou hol hnext
        have hcn0 := (hB10.cell (World.block_lt_of_cell? _ _ hcell0)).trans hcell0
        have HB10 := Aside0.mk hB10
        clear hw10 hB10 hFe
        go_wp2_with fail
        refine hou.mono ?_
        rintro e w11 ⟨v11, rfl, hR11, _, hB11⟩
        clear hou
        obtain ⟨A11, c11, rfl, hc11, hK11⟩ := Kd.R_reads hR11
        have hct := contains_calls A11 c11 F y hK11 hc11 (by omega)
        rw [hnext] at hct
        have hcz := (hB11.cell (World.block_lt_of_cell? _ _ hcn0)).trans hcn0
        have HB11 := Aside0.mk (HB10.out.trans (hB11.mono HB10.out.size))
        clear hR11 hK11 hB11 HB10 hcn0 hnext
        go_wp2_with fail
        refine hct.mono ?_
        rintro e w12 ⟨rfl, ⟨n12, rfl⟩⟩
        clear hct
        obtain ⟨w13, hw13⟩ : ∃ w13, w11.drewN n12 = w13 := ⟨_, rfl⟩
        have hB13 : Below w11.heap.size w11 w13 := by rw [← hw13]; exact pw_below_drewN (Below.refl _ _) n12
        rw [hw13]
        have hcz3 := (hB13.cell (World.block_lt_of_cell? _ _ hcz)).trans hcz
        have hcz30 : w13.cell? ad = some (.string z) := by rw [← hcz3]; simp [Addr.add]
        have HB13 := Aside0.mk (HR.out.trans ((HB11.out.trans (hB13.mono HB11.out.size)).mono HR.out.size))
        have hou := out_calls (HK.out w13 HB13.out).1 x hxs
        rw [HFE.out] at hou
        have hlt1 : decide (x.toList < z.toList) = false := decide_eq_false (fun h => hfst (by rw [toList_L, toList_L] at h; exact h))
        have hlt2 : Op.bytesLess x.toList z.toList = false := by rw [less_eq]; exact decide_eq_false hfst
        clear hw13 hB13 hcz HB11 HR hcell hcelln hcell0 hfst
        go_wp2_with fail
        refine hou.mono ?_
        rintro e w14 ⟨v14, rfl, hR14, _, hB14⟩
        clear hou
        obtain ⟨A14, c14, rfl, hc14, hK14⟩ := Kd.R_reads hR14
        have HK14 : Aside0 (Below w6.heap.size w6 w14 ∧ Kd.C Kd.string w14 A14 F.length F) := ⟨HB13.out.trans (hB14.mono HB13.out.size), hK14⟩
        clear hR14 hK14 hB14 HB13 hcz3 hcz30 hlt1 hlt2 hwr hmod hne
        go_wp2_with fail
        go_loopg [137] (F.length + 1) (fun n v wr => ∃ j : Nat, v = .int .i64 (j : Int) ∧ Aside0 (j + n = F.length + 1) ∧ Aside0 (Below w14.heap.size w14 wr))
        case atStart => exact ⟨0, rfl, ⟨by omega⟩, ⟨Below.refl _ _⟩⟩
        case round =>
          obtain ⟨j, rfl, ⟨hn2⟩, HR⟩ := hrel
          have HB := Aside0.mk (HK14.out.1.trans (HR.out.mono HK14.out.1.size))
          by_cases cj : j < F.length
          case neg =>
            have cjb : decide ((j : Int) < (F.length : Int)) = false := decide_eq_false (by omega)
            clear HR HK14 htk
            go_wp2_with fail
            go_roundg (gm - 1)
            case measure => omega
            case rel => exact ⟨i + 1, by first | rfl | (rw [w64_ (by omega) (by omega)]; rfl) | simp, ⟨by omega⟩, HB⟩
          have cjb : decide ((j : Int) < (F.length : Int)) = true := decide_eq_true (by omega)
          obtain ⟨ad7, had7, hcell⟩ := Kd.at_string (Kd.C_below HK14.out.2 HR.out) (j : Int) (Int.natCast_nonneg _) (by omega)
          subst had7
          rw [Int.toNat_natCast, get_rd cj] at hcell
          have hmm : F[j] ∈ G.out x := by rw [HFE.out]; exact List.getElem_mem cj
          have hcho := HCH.out F[j] hmm
          obtain ⟨m, hme⟩ : ∃ m, F[j] = m := ⟨_, rfl⟩
          rw [hme] at hcell hcho
          clear hme hmm
          by_cases hmy : m = y
          · subst hmy
            have HX := Aside0.mk HR.out
            clear HR HB
            go_wp2_with fail
            go_roundg (gk - 1)
            case measure => omega
            case rel => exact ⟨j + 1, by first | rfl | (rw [w64_ (by omega) (by omega)]; rfl) | simp, ⟨by omega⟩, HX⟩
          · have hno := hasB_no' (hcho hmy)
            have hct := contains_calls (some ad) c5 C m (HK.out wr HB.out).2.1 hc5 (by omega)
            rw [hno] at hct
            have hb0 : ¬ m.toList = y.toList := fun h => hmy (toList_eq.1 h)
            have hb1 : (m.toList == y.toList) = false := beq_eq_false_iff_ne.2 hb0
            have hb2 : (m.toList != y.toList) = true := by rw [bne, hb1]; rfl
            clear hno hcho
            go_wp2_with fail
            refine hct.mono ?_
            rintro e w15 ⟨rfl, ⟨n15, rfl⟩⟩
            clear hct
            have HX := Aside0.mk (pw_below_drewN HR.out n15)
            clear HR HB
            go_wp2_with fail
            go_roundg (gk - 1)
            case measure => omega
            case rel => exact ⟨j + 1, by first | rfl | (rw [w64_ (by omega) (by omega)]; rfl) | simp, ⟨by omega⟩, HX⟩
end Go.Proofs.Ytmhbdgnajlnhnaa.P
