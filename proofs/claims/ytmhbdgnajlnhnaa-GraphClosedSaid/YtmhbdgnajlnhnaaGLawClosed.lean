/- GraphClosed: the law's walk. -/
import Derived.Test.YtmhbdgnajlnhnaaGBoth
import Derived.Test.YtmhbdgnajlnhnaaPlCyc
import Derived.Test.YtmhbdgnajlnhnaaGHave
import Derived.Test.YtmhbdgnajlnhnaaPlClo
import Derived.Deep.RegionHeld3
namespace Go.Proofs.Ytmhbdgnajlnhnaa.P
open Go.RowKit Go.Maps Go.MapKept Go.ChangeMaps Go.Proofs.YtmhbdgnajlnhnaaW.PrintWords Go.Proofs.YtmhbdgnajlnhnaaW.PrintLast Go.Proofs.YtmhbdgnajlnhnaaW.PrintMore Go.Proofs.Ytmhbdgnajlnhnaa.Pl
set_option linter.unusedVariables false
set_option linter.unusedSimpArgs false
set_option maxRecDepth 1000000 in
set_option maxHeartbeats 4000000 in
theorem closed_walk (A0 : Option Addr) (c0 : Nat) (E : List S45) (A1 : Option Addr) (c1 : Nat) (names : List ByteArray) (A2 : Option Addr) (c2 : Nat) (a : List ByteArray) (A3 : Option Addr) (c3 : Nat) (b : List ByteArray) (w : World) (h0 : Kd.C k45 w A0 E.length E) (hc0 : E.length ≤ c0) (hE : ∀ e, e ∈ E → e.f0.size ≤ maxLen ∧ e.f1.size ≤ maxLen) (h1 : Kd.C Kd.string w A1 names.length names) (hc1 : names.length ≤ c1) (hn : ∀ s, s ∈ names → s.size ≤ maxLen) (h2 : Kd.C Kd.string w A2 a.length a) (hc2 : a.length ≤ c2) (hz2 : ∀ s, s ∈ a → s.size ≤ maxLen) (h3 : Kd.C Kd.string w A3 b.length b) (hc3 : b.length ≤ c3) (hz3 : ∀ s, s ∈ b → s.size ≤ maxLen) :
    Calls Try.prog 9 #[.slice A0 E.length c0, .slice A1 names.length c1, .slice A2 a.length c2, .slice A3 b.length c3] w fun e w' => e = .returned (.bool true) ∧ Below w.heap.size w w' := by
  have hwk := works_calls w
  have hu29 := Try.underlying29
  have HC := Aside0.mk (And.intro h0 h1)
  have HS := Aside0.mk (And.intro hE hn)
  have HC2 := Aside0.mk (And.intro h2 hz2)
  have HC3 := Aside0.mk (And.intro h3 hz3)
  clear h0 h1 hE hn h2 hz2 h3 hz3
  go_enter Try.func9, Try.ntmps9
  go_wp2_with fail
  refine hwk.mono ?_
  rintro e w1 ⟨rfl, hB1⟩
  clear hwk
  have hlg := long_calls A0 c0 E A1 c1 names (Kd.C_below HC.out.1 hB1) hc0 (Kd.C_below HC.out.2 hB1) hc1
  by_cases hl : E.length > 40 ∨ names.length > 20
  · rw [decide_eq_true hl] at hlg
    clear hl
    go_wp2_with fail
    refine hlg.mono ?_
    rintro e w2 ⟨rfl, ⟨n2, rfl⟩⟩
    clear hlg
    go_wp2_with fail
    go_ret
    exact ⟨rfl, pw_below_drewN hB1 n2⟩
  rw [decide_eq_false hl] at hlg
  have d2 : E.length ≤ 40 := by omega
  have hnl : names.length ≤ 20 := by omega
  by_cases hl2 : a.length > 10
  · have e2 : decide ((10 : Int) < (a.length : Int)) = true := decide_eq_true (by omega)
    have e2n : 10 < a.length := hl2
    clear hl hl2
    go_wp2_with fail
    refine hlg.mono ?_
    rintro e w2 ⟨rfl, ⟨n2, rfl⟩⟩
    clear hlg
    go_wp2_with fail
    go_ret
    exact ⟨rfl, pw_below_drewN hB1 n2⟩
  have e2 : decide ((10 : Int) < (a.length : Int)) = false := decide_eq_false (by omega)
  have e2n : a.length ≤ 10 := by omega
  by_cases hl3 : b.length > 10
  · have e3 : decide ((10 : Int) < (b.length : Int)) = true := decide_eq_true (by omega)
    have e3n : 10 < b.length := hl3
    clear hl hl3
    go_wp2_with fail
    refine hlg.mono ?_
    rintro e w2 ⟨rfl, ⟨n2, rfl⟩⟩
    clear hlg
    go_wp2_with fail
    go_ret
    exact ⟨rfl, pw_below_drewN hB1 n2⟩
  have e3 : decide ((10 : Int) < (b.length : Int)) = false := decide_eq_false (by omega)
  have e3n : b.length ≤ 10 := by omega
  go_wp2_with fail
  refine hlg.mono ?_
  rintro e w2 ⟨rfl, ⟨n2, rfl⟩⟩
  clear hlg
  have hB2 : Below w.heap.size w (w1.drewN n2) := pw_below_drewN hB1 n2
  obtain ⟨wp, hwp⟩ : ∃ wp, w1.drewN n2 = wp := ⟨_, rfl⟩
  rw [hwp] at hB2
  have hmd := made_calls (w := wp) A0 c0 E A1 c1 names (Kd.C_below HC.out.1 hB2) (Kd.C_below HC.out.2 hB2) HS.out.1 HS.out.2 (by omega) (by omega)
  have HB2 := Aside0.mk hB2
  try rw [hwp]
  clear hl hB1 hB2 hl2 hl3
  go_wp2_with fail
  refine hmd.mono ?_
  rintro e w3 ⟨q, rfl, r3, hM3, hB3⟩
  clear hmd
  have hB13 := HB2.out.trans (hB3.mono HB2.out.size)
  have hGok := madeG_ok HS.out.1 HS.out.2
  have hGl := madeG_len E names
  obtain ⟨G, hG⟩ : ∃ G, madeG E names = G := ⟨_, rfl⟩
  rw [hG] at hM3 hGok hGl
  have HT : Aside0 (∀ W, Below w3.heap.size w3 W → GMem W wp.heap.size r3 q G) := ⟨fun W hb => hM3.below hb⟩
  have HBW : Aside0 (Below w.heap.size w w3) := ⟨hB13⟩
  have HG := Aside0.mk hGok
  have hnsl : G.ns.length ≤ 1000 := by omega
  clear hG hM3 hB3 hB13 hGok hwp hGl
  have hb1 := below_callsG (HT.out w3 (Below.refl _ _)) A2 c2 a (Kd.C_below HC2.out.1 HBW.out) HC2.out.2 (by omega)
  have hb2 := fun W (hb : Below w3.heap.size w3 W) => below_callsG (HT.out W hb) A3 c3 b (Kd.C_below HC3.out.1 (HBW.out.trans (hb.mono HBW.out.size))) HC3.out.2 (by omega)
  have f1 : ∀ s, s ∈ belowG G a → s ∈ G.ns := fun s h => below_in HG.out h
  have f2 : ∀ s t, s ∈ belowG G a → t ∈ G.out s → t ∈ belowG G a := fun s t h ht => below_out HG.out h ht
  have f3 := below_below HG.out a
  have f4 := below_both HG.out a b
  have f5 := below_turned HG.out a
  have hk1 := belowG_len G a
  have hk2 := belowG_len G b
  obtain ⟨K1, hK1⟩ : ∃ K1, belowG G a = K1 := ⟨_, rfl⟩
  obtain ⟨K2, hK2⟩ : ∃ K2, belowG G b = K2 := ⟨_, rfl⟩
  rw [hK1] at hb1 f3 f4 f5 hk1
  rw [hK2] at f4 hk2
  simp only [hK1] at f1 f2
  simp only [hK2] at hb2
  have HF := Aside0.mk (And.intro f1 (And.intro f2 (And.intro f3 (And.intro f4 f5))))
  have HB2' := Aside0.mk hb2
  clear f1 f2 f3 f4 f5 hK1 hK2 hb2
  go_wp2_with fail
  refine hb1.mono ?_
  rintro e w4 ⟨v4, rfl, hR4, _, hB4⟩
  clear hb1
  obtain ⟨A4, c4, rfl, hc4, hK4⟩ := Kd.R_reads hR4
  have hb2 := HB2'.out w4 hB4
  have H4 := Aside0.mk (And.intro hB4 hK4)
  clear hR4 hB4 hK4 HB2'
  go_wp2_with fail
  refine hb2.mono ?_
  rintro e w5 ⟨v5, rfl, hR5, _, hB5⟩
  clear hb2
  obtain ⟨A5, c5, rfl, hc5, hK5⟩ := Kd.R_reads hR5
  have hB35 := H4.out.1.trans (hB5.mono H4.out.1.size)
  have HK : Aside0 (∀ W, Below w5.heap.size w5 W → GMem W wp.heap.size r3 q G ∧ Kd.C Kd.string W A4 K1.length K1 ∧ Kd.C Kd.string W A5 K2.length K2 ∧ Kd.C Kd.string W A2 a.length a ∧ Kd.C Kd.string W A3 b.length b ∧ Below w.heap.size w W) := ⟨fun W hb => by
    have h3 := hB35.trans (hb.mono hB35.size)
    have h0 := HBW.out.trans (h3.mono HBW.out.size)
    exact ⟨HT.out W h3, Kd.C_below H4.out.2 (hB5.trans (hb.mono hB5.size)), Kd.C_below hK5 hb, Kd.C_below HC2.out.1 h0, Kd.C_below HC3.out.1 h0, h0⟩⟩
  clear hR5 hK5 hB5 hB35 H4 HT HBW
  go_wp2_with fail
  go_loopg [44] (K1.length + 1) (fun n v wr => ∃ i : Nat, v = .int .i64 (i : Int) ∧ Aside0 (i + n = K1.length + 1) ∧ Aside0 (Below w5.heap.size w5 wr))
  case atStart => exact ⟨0, rfl, ⟨by omega⟩, ⟨Below.refl _ _⟩⟩
  case round =>
    obtain ⟨i, rfl, ⟨hn⟩, HR⟩ := hrel
    by_cases ci : i < K1.length
    case pos =>
      have cib : decide ((i : Int) < (K1.length : Int)) = true := decide_eq_true (by omega)
      obtain ⟨ad, had, hcell⟩ := Kd.at_string (HK.out wr HR.out).2.1 (i : Int) (Int.natCast_nonneg _) (by omega)
      subst had
      rw [Int.toNat_natCast, get_rd ci] at hcell
      have hin := HF.out.1 _ (List.getElem_mem ci)
      have hcl := fun t => HF.out.2.1 _ t (List.getElem_mem ci)
      obtain ⟨x, hxe⟩ : ∃ x, K1[i] = x := ⟨_, rfl⟩
      rw [hxe] at hcell hin
      simp only [hxe] at hcl
      have hxs := HG.out.short x hin
      have hhas := has_calls (HK.out wr HR.out).1 x hxs
      rw [hasB_iff.2 hin] at hhas
      have hou := out_calls (HK.out wr HR.out).1 x hxs
      have hol := out_len (HK.out wr HR.out).1 x
      obtain ⟨F, hF⟩ : ∃ F, G.out x = F := ⟨_, rfl⟩
      rw [hF] at hou hol
      simp only [hF] at hcl
      have HCL := Aside0.mk hcl
      obtain ⟨gm, rfl⟩ : ∃ gm : Nat, gm = gk := ⟨_, rfl⟩
      clear hxe hF hcl hin
      go_wp2_with fail
      refine hhas.mono ?_
      rintro e w6 ⟨rfl, rfl⟩
      clear hhas
      go_wp2_with fail
      refine hou.mono ?_
      rintro e w7 ⟨v7, rfl, hR7, _, hB7⟩
      clear hou
      obtain ⟨A7, c7, rfl, hc7, hK7⟩ := Kd.R_reads hR7
      have HK7 := Aside0.mk (And.intro (HR.out.trans (hB7.mono HR.out.size)) hK7)
      clear hR7 hK7 hB7 HR hcell
      go_wp2_with fail
      go_loopg [56] (F.length + 1) (fun n v wr => ∃ j : Nat, v = .int .i64 (j : Int) ∧ Aside0 (j + n = F.length + 1) ∧ Aside0 (Below w7.heap.size w7 wr))
      case atStart => exact ⟨0, rfl, ⟨by omega⟩, ⟨Below.refl _ _⟩⟩
      case round =>
        obtain ⟨j, rfl, ⟨hn2⟩, HR⟩ := hrel
        have HB := Aside0.mk (HK7.out.1.trans (HR.out.mono HK7.out.1.size))
        by_cases cj : j < F.length
        case neg =>
          have cjb : decide ((j : Int) < (F.length : Int)) = false := decide_eq_false (by omega)
          clear HR HK7
          go_wp2_with fail
          go_roundg (gm - 1)
          case measure => omega
          case rel => exact ⟨i + 1, by first | rfl | (rw [w64_ (by omega) (by omega)]; rfl) | simp, ⟨by omega⟩, HB⟩
        have cjb : decide ((j : Int) < (F.length : Int)) = true := decide_eq_true (by omega)
        obtain ⟨ad7, had7, hcell⟩ := Kd.at_string (Kd.C_below HK7.out.2 HR.out) (j : Int) (Int.natCast_nonneg _) (by omega)
        subst had7
        rw [Int.toNat_natCast, get_rd cj] at hcell
        have hyes := hasB_iff.2 (HCL.out _ (List.getElem_mem cj))
        obtain ⟨y, hye⟩ : ∃ y, F[j] = y := ⟨_, rfl⟩
        rw [hye] at hcell hyes
        have hct := contains_calls (some ad) c4 K1 y (HK.out wr HB.out).2.1 hc4 (by omega)
        rw [hyes] at hct
        clear hye hyes
        go_wp2_with fail
        refine hct.mono ?_
        rintro e w8 ⟨rfl, ⟨n8, rfl⟩⟩
        clear hct
        have HX := Aside0.mk (pw_below_drewN HR.out n8)
        clear HR HB
        go_wp2_with fail
        go_roundg (gk - 1)
        case measure => omega
        case rel => exact ⟨j + 1, by first | rfl | (rw [w64_ (by omega) (by omega)]; rfl) | simp, ⟨by omega⟩, HX⟩
    have cib : decide ((i : Int) < (K1.length : Int)) = false := decide_eq_false (by omega)
    have HW := Aside0.mk (fun W (hb : Below wr.heap.size wr W) => HK.out W (HR.out.trans (hb.mono HR.out.size)))
    have q1 := below_callsG (HW.out wr (Below.refl _ _)).1 A4 c4 K1 (HW.out wr (Below.refl _ _)).2.1 (fun s hs => HG.out.short s (HF.out.1 s hs)) (by omega)
    rw [HF.out.2.2.1] at q1
    clear HK HR
    go_wp2_with fail
    refine q1.mono ?_
    rintro e w6 ⟨v6, rfl, hR6, _, hB6⟩
    clear q1
    obtain ⟨A6, c6, rfl, hc6, hK6⟩ := Kd.R_reads hR6
    have q1 := equalS_calls A6 c6 A4 c4 K1 hK6 hc6 (HW.out w6 hB6).2.1 hc4 (by omega)
    have HB6 := Aside0.mk hB6
    clear hR6 hK6 hB6
    go_wp2_with fail
    refine q1.mono ?_
    rintro e w7 ⟨rfl, ⟨n7, rfl⟩⟩
    clear q1
    obtain ⟨w8, hw8⟩ : ∃ w8, w6.drewN n7 = w8 := ⟨_, rfl⟩
    have hB8 : Below wr.heap.size wr w8 := by rw [← hw8]; exact pw_below_drewN HB6.out n7
    rw [hw8]
    obtain ⟨w9, hw9⟩ : ∃ w9, w8.alloc (.cells #[.slice A2 a.length c2, .slice A3 b.length c3] 23) = w9 := ⟨_, rfl⟩
    have hB9 : Below wr.heap.size wr w9 := by rw [← hw9]; exact below_alloc hB8 _
    have q1 := concat_calls (w := w9) w8.heap.size A2 c2 a A3 c3 b (by rw [← hw9]; exact alloc_new) (HW.out w9 hB9).2.2.2.1 (HW.out w9 hB9).2.2.2.2.1 (by omega) (by omega)
    have HB9 := Aside0.mk hB9
    clear hw8 hB8 hB9 HB6
    go_wp2_with fail
    try rw [hw9]
    refine q1.mono ?_
    rintro e w10 ⟨v10, rfl, hR10, hB10⟩
    clear q1 hw9
    obtain ⟨ab, hab⟩ : ∃ ab, a ++ b = ab := ⟨_, rfl⟩
    have HAB : Aside0 ((∀ s, s ∈ ab → s.size ≤ maxLen) ∧ ab.length ≤ 20 ∧ belowG G ab = srt (K1 ++ K2)) := ⟨by
      rw [← hab]
      exact ⟨fun s hs => (List.mem_append.1 hs).elim (HC2.out.2 s) (HC3.out.2 s), by rw [List.length_append]; omega, HF.out.2.2.2.1⟩⟩
    rw [hab] at hR10
    clear hab
    obtain ⟨A10, c10, rfl, hc10, hK10⟩ := Kd.R_reads hR10
    have hBx := HB9.out.trans (hB10.mono HB9.out.size)
    have q1 := below_callsG (HW.out w10 hBx).1 A10 c10 ab hK10 HAB.out.1 (by have := HAB.out.2.1; omega)
    rw [HAB.out.2.2] at q1
    have HB10 := Aside0.mk hBx
    clear hR10 hK10 hB10 hBx HB9
    go_wp2_with fail
    refine q1.mono ?_
    rintro e w11 ⟨v11, rfl, hR11, _, hB11⟩
    clear q1
    obtain ⟨A11, c11, rfl, hc11, hK11⟩ := Kd.R_reads hR11
    have hBx := HB10.out.trans (hB11.mono HB10.out.size)
    have hsl : (srt (K1 ++ K2)).length ≤ 2000 := Nat.le_trans (srt_len _) (by rw [List.length_append]; omega)
    have q1 := both_calls A4 c4 K1 A5 c5 K2 (HW.out w11 hBx).2.1 (HW.out w11 hBx).2.2.1 (by omega) (by omega)
    have H11 := Aside0.mk (And.intro hBx hK11)
    clear hR11 hK11 hB11 hBx HB10
    go_wp2_with fail
    refine q1.mono ?_
    rintro e w12 ⟨v12, rfl, hR12, hB12⟩
    clear q1
    obtain ⟨A12, c12, rfl, hc12, hK12⟩ := Kd.R_reads hR12
    have q1 := equalS_calls A11 c11 A12 c12 (srt (K1 ++ K2)) (Kd.C_below H11.out.2 hB12) hc11 hK12 hc12 (by omega)
    have HB12 := Aside0.mk (H11.out.1.trans (hB12.mono H11.out.1.size))
    clear hR12 hK12 hB12 H11
    go_wp2_with fail
    refine q1.mono ?_
    rintro e w13 ⟨rfl, ⟨n13, rfl⟩⟩
    clear q1
    obtain ⟨w14, hw14⟩ : ∃ w14, w12.drewN n13 = w14 := ⟨_, rfl⟩
    have HB14 : Aside0 (Below wr.heap.size wr w14) := ⟨by rw [← hw14]; exact pw_below_drewN HB12.out n13⟩
    rw [hw14]
    clear hw14 HB12
    have q1 := turn_calls (HW.out w14 HB14.out).1 hnsl
    go_wp2_with fail
    refine q1.mono ?_
    rintro e w15 ⟨q5, rfl, r5, hM5, hB15⟩
    clear q1
    have hBx := HB14.out.trans (hB15.mono HB14.out.size)
    have q1 := above_callsG hM5 A2 c2 a (HW.out w15 hBx).2.2.2.1 HC2.out.2 (by omega)
    rw [HF.out.2.2.2.2] at q1
    have HB15 := Aside0.mk hBx
    clear hM5 hB15 hBx HB14
    go_wp2_with fail
    refine q1.mono ?_
    rintro e w16 ⟨v16, rfl, hR16, _, hB16⟩
    clear q1
    obtain ⟨A16, c16, rfl, hc16, hK16⟩ := Kd.R_reads hR16
    have hBx := HB15.out.trans (hB16.mono HB15.out.size)
    have q1 := equalS_calls A16 c16 A4 c4 K1 hK16 hc16 (HW.out w16 hBx).2.1 hc4 (by omega)
    have HB16 := Aside0.mk hBx
    clear hR16 hK16 hB16 hBx HB15
    go_wp2_with fail
    refine q1.mono ?_
    rintro e w17 ⟨rfl, ⟨n17, rfl⟩⟩
    clear q1
    obtain ⟨w18, hw18⟩ : ∃ w18, w16.drewN n17 = w18 := ⟨_, rfl⟩
    have HB18 : Aside0 (Below wr.heap.size wr w18) := ⟨by rw [← hw18]; exact pw_below_drewN HB16.out n17⟩
    rw [hw18]
    clear hw18 HB16
    have q1 := turn_calls (HW.out w18 HB18.out).1 hnsl
    go_wp2_with fail
    refine q1.mono ?_
    rintro e w19 ⟨q9, rfl, r9, hM9, hB19⟩
    clear q1
    have hBx := HB18.out.trans (hB19.mono HB18.out.size)
    have q1 := below_callsG hM9 A2 c2 a (HW.out w19 hBx).2.2.2.1 HC2.out.2 (by omega)
    have hal := belowG_len (turnG G) a
    rw [turnG_ns HG.out] at hal
    obtain ⟨K3, hK3⟩ : ∃ K3, belowG (turnG G) a = K3 := ⟨_, rfl⟩
    rw [hK3] at q1 hal
    have HK3 := Aside0.mk hK3
    have HB19 := Aside0.mk hBx
    clear hM9 hB19 hBx HB18 hK3
    go_wp2_with fail
    refine q1.mono ?_
    rintro e w20 ⟨v20, rfl, hR20, _, hB20⟩
    clear q1
    obtain ⟨A20, c20, rfl, hc20, hK20⟩ := Kd.R_reads hR20
    have hBx := HB19.out.trans (hB20.mono HB19.out.size)
    have q1 := above_callsG (HW.out w20 hBx).1 A2 c2 a (HW.out w20 hBx).2.2.2.1 HC2.out.2 (by omega)
    rw [HK3.out] at q1
    have H20 := Aside0.mk (And.intro hBx hK20)
    clear hR20 hK20 hB20 hBx HB19
    go_wp2_with fail
    refine q1.mono ?_
    rintro e w21 ⟨v21, rfl, hR21, _, hB21⟩
    clear q1
    obtain ⟨A21, c21, rfl, hc21, hK21⟩ := Kd.R_reads hR21
    have q1 := equalS_calls A20 c20 A21 c21 K3 (Kd.C_below H20.out.2 hB21) hc20 hK21 hc21 (by omega)
    have HB21 := Aside0.mk (H20.out.1.trans (hB21.mono H20.out.1.size))
    clear hR21 hK21 hB21 H20
    go_wp2_with fail
    refine q1.mono ?_
    rintro e w22 ⟨rfl, ⟨n22, rfl⟩⟩
    clear q1
    have HE := Aside0.mk (HW.out _ (pw_below_drewN HB21.out n22)).2.2.2.2.2
    clear HB21 HW
    go_wp2_with fail
    go_ret
    exact ⟨rfl, HE.out⟩
end Go.Proofs.Ytmhbdgnajlnhnaa.P
