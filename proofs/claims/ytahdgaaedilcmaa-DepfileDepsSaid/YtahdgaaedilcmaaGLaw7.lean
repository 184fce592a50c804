/- DepfileDeps' own function: the walk. -/
import Derived.Test.YtahdgaaedilcmaaPlDeps
import Derived.Test.YtahdgaaedilcmaaGLaw6
namespace Go.Proofs.Ytahdgaaedilcmaa.P
open Go.RowKit Go.Maps Go.Proofs.YtahdgaaedilcmaaW.PrintWords Go.Proofs.YtahdgaaedilcmaaW.PrintLast Go.Proofs.YtahdgaaedilcmaaW.PrintMore Go.Proofs.Ytahdgaaedilcmaa.Pl
set_option linter.unusedVariables false
set_option linter.unusedSimpArgs false
set_option maxHeartbeats 4000000 in
set_option maxRecDepth 1000000 in
theorem law7_walk (a0 : ByteArray) (A0 : Option Addr) (c0 : Nat) (l0 : List S32) (w : World) (hr0 : Kd.C k32 w A0 l0.length l0) (hc0 : l0.length ≤ c0) (hRB : RB l0) :
    Calls Try.prog 7 #[.string a0, .slice A0 l0.length c0] w fun e w' => e = .returned (.bool true) ∧ Below w.heap.size w w' := by
  obtain ⟨kw, hkw⟩ := ev_some works_ev
  obtain ⟨b, hbe, hbt⟩ := great_ev [l0] (by simp) (fun l hl => by rw [List.mem_singleton] at hl; rw [hl]; exact hRB)
  obtain ⟨kg, hkg⟩ := ev_some hbe
  have HW := Aside0.mk hkw
  have HG := Aside0.mk hkg
  have HC := Aside0.mk hr0
  clear hkw hkg hr0 hbe
  go_enter Try.func7, Try.ntmps7
  go_wp2_with fail
  refine (brickyardlaw16_works.calls kw true _ HW.out).mono ?_
  rintro e w1 ⟨rfl, hb1⟩
  have hs1 := hb1.size
  go_wp2_with fail
  have hCg := lists_one (e := 23) hc0 (Kd.C_below HC.out hb1)
  have hbg : Below w.heap.size w (w1.alloc (.cells #[.slice A0 l0.length c0] 23)) := hb1.alloc hs1 _
  refine (brickyardlaw16_great.calls kg (some ⟨w1.heap.size, 0, none⟩) 1 [l0] b _ hCg (Nat.le_refl _) HG.out).mono ?_
  rintro e w2 ⟨rfl, ⟨nd, rfl⟩⟩
  have hb2 := pw_below_drewN hbg nd
  obtain ⟨W2, hW2⟩ : ∃ W2, W2 = (w1.alloc (.cells #[.slice A0 l0.length c0] 23)).drewN nd := ⟨_, rfl⟩
  rw [← hW2] at hb2
  cases b with
  | true =>
    go_wp2
    rw [← hW2]
    go_ret
    exact ⟨rfl, hb2⟩
  | false =>
    have htot := hbt rfl
    have htot1 : tot l0 < 32768 := by have : totL [l0] = tot l0 + 0 := rfl; omega
    obtain ⟨hnb, hsd⟩ := normable_of htot1
    obtain ⟨kd, hkd⟩ := ev_some (deps_ev a0 l0 hnb hsd)
    obtain ⟨kr, hkr⟩ := ev_some (refdeps_ev a0 l0 hnb hsd)
    have hrl := depsL_len a0 l0
    obtain ⟨⟨R, er⟩, hR⟩ : ∃ R, depsL a0 l0 = R := ⟨_, rfl⟩
    rw [hR] at hkd hkr hrl
    obtain ⟨kt, hkt⟩ := ev_some (texts_refl R (by dsimp only at hrl; omega))
    have HKD := Aside0.mk hkd
    have HKR := Aside0.mk hkr
    have HKT := Aside0.mk hkt
    clear hkd hkr hkt hR hrl hbt htot hCg hbg
    by_cases hl : (1000 : Int) < (a0.size : Int)
    · have hlb : decide ((1000 : Int) < (a0.size : Int)) = true := decide_eq_true hl
      go_wp2
      rw [← hW2]
      go_ret
      exact ⟨rfl, hb2⟩
    · have hlb : decide ((1000 : Int) < (a0.size : Int)) = false := decide_eq_false hl
      go_wp2_with fail
      rw [← hW2]
      clear hW2
      refine (depfile_Deps.calls kd a0 A0 c0 l0 R er W2 (Kd.C_below HC.out hb2) hc0 HKD.out).mono ?_
      rintro e w3 ⟨vA, rfl, hRA, hbA⟩
      have hb3 := below_then hb2 hb2.size hbA
      obtain ⟨AA, cA, rfl, hcA, hCA⟩ := Kd.R_reads hRA
      go_wp2_with fail
      refine (brickyardref16_Deps.calls kr a0 A0 c0 l0 R er w3 (Kd.C_below HC.out hb3) hc0 HKR.out).mono ?_
      rintro e w4 ⟨vB, rfl, hRB4, hbB⟩
      have hb4 := below_then hb3 hb3.size hbB
      obtain ⟨AB, cB, rfl, hcB, hCB⟩ := Kd.R_reads hRB4
      go_wp2_with fail
      refine (brickyardref16_Texts.calls kt AA cA R AB cB R true w4 (Kd.C_below hCA hbB) hcA hCB hcB HKT.out).mono ?_
      rintro e w5 ⟨rfl, ⟨nd5, rfl⟩⟩
      have hbF := pw_below_drewN hb4 nd5
      have heq : (er == er) = true := beq_self_eq_true _
      go_wp2
      go_ret
      exact ⟨rfl, hbF⟩
end Go.Proofs.Ytahdgaaedilcmaa.P
