/- like: a tree tells what the document's one does. -/
import Derived.Test.YtkldaghhfnpcjaaGNone
import Derived.Test.YtkldaghhfnpcjaaGRefX
import Derived.Test.YtkldaghhfnpcjaaGRefS
import Derived.Test.YtkldaghhfnpcjaaPxf18
namespace Go.Proofs.Ytkldaghhfnpcjaa.P
open Go.RowKit Go.Maps Go.Proofs.YtkldaghhfnpcjaaW.PrintWords Go.Proofs.YtkldaghhfnpcjaaW.PrintLast Go.Proofs.YtkldaghhfnpcjaaW.PrintMore Go.Proofs.Ytkldaghhfnpcjaa.Pl
set_option linter.unusedVariables false
variable {fr : Nat → Prop} {w0 : World}
set_option linter.unusedSimpArgs false
theorem texts_same (l : List ByteArray) (hl : l.length ≤ 1000000) : Ev (fun k => brickyardlaw10_texts.f k l l) true := by
  have h0 : ∀ (d i : Nat), i + d = l.length → Ev (fun k => brickyardlaw10_texts.l0 k l l (i : Int)) true := by
    intro d
    induction d with
    | zero =>
      intro i hi
      refine ev_succ ?_
      simp only [brickyardlaw10_texts.l0]
      exact ev_ite_neg (by omega) (ev_const rfl)
    | succ d ih =>
      intro i hi
      refine ev_succ ?_
      simp only [brickyardlaw10_texts.l0]
      refine ev_ite_pos (by omega) (ev_ite_pos (by omega) (ev_ite_pos (by omega) (ev_ite_pos (by trivial) ?_)))
      rw [show wrap64 ((i : Int) + 1) = ((i + 1 : Nat) : Int) by rw [w64_ (by omega) (by omega)]; rfl]
      exact ih (i + 1) (by omega)
  unfold brickyardlaw10_texts.f
  exact ev_ite_pos rfl (h0 l.length 0 (by omega))
theorem texts_calls {l : List ByteArray} (hl : l.length ≤ 1000000) {A A' : Option Addr} {c c' : Nat} {w : World} (h0 : Kd.C Kd.string w A l.length l) (hc : l.length ≤ c) (h1 : Kd.C Kd.string w A' l.length l) (hc' : l.length ≤ c') :
    Calls Try.prog 18 #[.slice A l.length c, .slice A' l.length c'] w fun e w' => e = .returned (.bool true) ∧ Drawn0 w w' := by
  obtain ⟨k, hk⟩ := ev_some (texts_same l hl)
  exact brickyardlaw10_texts.calls k A c l A' c' l true w h0 hc h1 hc' hk
theorem list_all (S : TS) : listT S ⟨#[]⟩ = S.fs.map (·.1) := by
  unfold listT
  refine List.filter_eq_self.2 (fun q _ => ?_)
  unfold startsB
  simp [L]
theorem TMem.drewN {w : World} {base p : Nat} {ok : Nat → Prop} {S : TS} (h : TMem w base ok p S) (n : Nat) : TMem (w.drewN n) base ok p S := h.below (pw_below_drewN (Below.refl _ _) n)
theorem RMem.drewN {w : World} {base p : Nat} {ok : Nat → Prop} {S : TS} (h : RMem w base ok p S) (n : Nat) : RMem (w.drewN n) base ok p S := h.below (pw_below_drewN (Below.refl _ _) n)
/-- both, apart -/
structure Two (fr : Nat → Prop) (w0 w : World) (b0 p r : Nat) (S : TS) : Prop where
  t : ∃ ok ok2, TMem w b0 ok p S ∧ RMem w b0 ok2 r S ∧ (∀ k, ok k → ¬ ok2 k) ∧ ∀ k, fr k → ¬ ok k ∧ ¬ ok2 k ∧ k < w.heap.size ∧ w.heap[k]? = w0.heap[k]?
theorem Two.below {w w' : World} {b0 p r : Nat} {S : TS} (h : Two fr w0 w b0 p r S) (hb : Below w.heap.size w w') : Two fr w0 w' b0 p r S := by
  obtain ⟨ok, ok2, h1, h2, h3, h4⟩ := h.t
  exact ⟨ok, ok2, h1.below hb, h2.below hb, h3, fun k hk => ⟨(h4 k hk).1, (h4 k hk).2.1, Nat.lt_of_lt_of_le (h4 k hk).2.2.1 hb.size, (hb.block k (h4 k hk).2.2.1).trans (h4 k hk).2.2.2⟩⟩
set_option maxRecDepth 100000 in
set_option maxHeartbeats 4000000 in
theorem like_calls {w : World} {b0 p r : Nat} {S : TS} (h : Two fr w0 w b0 p r S) :
    Calls Try.prog 23 #[.pointer (some ⟨p, 0, none⟩), .pointer (some ⟨r, 0, none⟩)] w fun e w' => e = .returned (.bool true) ∧ Below w.heap.size w w' := by
  obtain ⟨ok, ok2, hM, hR, -⟩ := h.t
  have hls := listed_tree hM ⟨#[]⟩
  rw [list_all] at hls
  have H0 := Aside0.mk (And.intro hM hR)
  clear h hM hR
  go_enter Try.func23, Try.ntmps23
  go_wp2_with fail
  refine hls.mono ?_
  rintro e w1 ⟨v, rfl, hl1, hb1⟩
  clear hls
  have hM1 := H0.out.1.below hb1
  have hR1 := H0.out.2.below hb1
  have hgood := hM1.good
  have hfew := hM1.few
  obtain ⟨A, c, rfl, hc, hC⟩ := Kd.R_reads hl1
  rw [List.length_map] at hc hC ⊢
  obtain ⟨A1, c1, A2, c2, x0, hc1, hC1, x1, hc2, hC2⟩ := hR1.cells
  have hlen := fun n => tlen_calls (hM1.drewN n)
  have hmark := fun n => tmark_calls (hM1.drewN n)
  obtain ⟨N, hN⟩ : ∃ N, S.fs.length = N := ⟨_, rfl⟩
  obtain ⟨M, hMc⟩ : ∃ M, S.cs.length = M := ⟨_, rfl⟩
  have hNle : N ≤ 256 := by rw [← hN]; exact hgood.few
  have hMle : M ≤ 1000000 := by rw [← hMc]; exact hfew
  simp only [hN, hMc] at hlen hmark x0 x1 hc hC hc1 hC1 hc2 hC2 ⊢
  have H1 := Aside0.mk (And.intro hM1 (And.intro hR1 (And.intro hb1 (And.intro hC (And.intro hC1 hgood)))))
  have HN := Aside0.mk (And.intro hN hMc)
  clear hM1 hR1 hb1 hl1 hC hC1 hC2 hgood hN hMc hfew
  go_wp2_with fail
  go_quiet (first | (go_at_call 16; exact Calls.quiet_of_same (hlen _)) | (go_at_call 20; exact Calls.quiet_of_same (hmark _)))
  clear hlen hmark
  go_wp2_with fail
  generalize hwq : w1.drewN nq = wq at *
  have hbq : Below w1.heap.size w1 wq := by rw [← hwq]; exact pw_below_drewN (Below.refl _ _) nq
  have Hq := Aside0.mk hbq
  have hlq : wq.heap.size = w1.heap.size := by rw [← hwq]; rfl
  clear hwq hbq x0 x1
  obtain ⟨l, hl⟩ : ∃ l, S.fs = l := ⟨_, rfl⟩
  have HSl := Aside0.mk hl
  have HL := Aside0.mk (show l.length = N by rw [← hl]; exact HN.out.1)
  rw [hl] at H1
  clear hl
  go_loopg [7] (N + 1) (fun n v7 wr => ∃ k : Nat, v7 = .int .i64 (k : Int) ∧ Aside0 (k + n = N + 1) ∧ Aside0 (Below w1.heap.size w1 wr))
  case atStart => exact ⟨0, rfl, ⟨by omega⟩, Hq⟩
  case round =>
    obtain ⟨k, rfl, ⟨hk⟩, HB⟩ := hrel
    have hMr := H1.out.1.below HB.out
    have hRr := H1.out.2.1.below HB.out
    obtain ⟨A1', c1', A2', c2', x0, hc1, hC1, x1, hc2, hC2⟩ := hRr.cells
    have hCk := Kd.C_below H1.out.2.2.2.1 HB.out
    simp only [HN.out.1, HN.out.2, HSl.out] at x0 hc1 hC1 x1 hc2 hC2
    have HX := Aside0.mk (And.intro hMr (And.intro hRr hC2))
    clear hMr hRr hC2
    by_cases d1 : k < N
    · have k1 : decide ((k : Int) < (N : Int)) = true := decide_eq_true (by omega)
      have hkl : k < l.length := by rw [HL.out]; exact d1
      obtain ⟨ad, rfl, y0⟩ := Kd.at_string hCk (k : Int) (by omega) (by omega)
      obtain ⟨ad1, rfl, z0, z1⟩ := at_T73 hC1 (k : Int) (by omega) (by omega)
      have hrd : rdOf ByteArray.empty (l.map (·.1)) (k : Int) = (l[k]'hkl).1 := by
        unfold rdOf
        rw [Int.toNat_natCast, List.getD_eq_getElem?_getD, List.getElem?_map, List.getElem?_eq_getElem hkl]
        rfl
      rw [hrd, Int.toNat_natCast] at y0
      rw [toF_get hkl, Int.toNat_natCast] at z0 z1
      have hg : fget S.fs (l[k]'hkl).1 = some (l[k]'hkl).2 := by
        rw [HSl.out]
        exact fget_of_mem (by rw [← HSl.out]; exact H1.out.2.2.2.2.2.rise) (List.getElem_mem hkl)
      have hsh := H1.out.2.2.2.2.2.short (l[k]'hkl) (by rw [HSl.out]; exact List.getElem_mem hkl)
      have hrt : readT S (l[k]'hkl).1 = ((l[k]'hkl).2, 0) := by unfold readT; rw [if_pos hsh.1, hg]
      have hrd2 := tread_calls HX.out.1 (l[k]'hkl).1 (by have := isP_size hsh.1; unfold maxLen; omega)
      rw [hrt] at hrd2
      obtain ⟨⟨q, u⟩, hqu⟩ : ∃ y, l[k]'hkl = y := ⟨_, rfl⟩
      simp only [hqu] at y0 z0 z1 hrd2
      have i0 : (0 : Int) ≤ (k : Int) := by omega
      have i1 : (k : Int) < (N : Int) := by omega
      clear hrd hg hsh hrt hqu hC1 hCk
      go_wp2_with fail
      refine hrd2.mono ?_
      rintro e wt ⟨rfl, ⟨nt, rfl⟩⟩
      clear hrd2
      go_wp2_with fail
      go_quiet (fail)
      try go_wp2_with fail
      go_roundg (gk - 1)
      case measure => omega
      case rel => exact ⟨k + 1, by first | rfl | (rw [w64_ (by omega) (by omega)]; rfl) | simp, ⟨by omega⟩, ⟨HB.out.trans (Below.mono (pw_below_drewN (Below.refl _ wr) _) HB.out.size)⟩⟩
    · have k1 : decide ((k : Int) < (N : Int)) = false := decide_eq_false (by omega)
      have hsn := since_calls HX.out.1 ((M : Int) - 32)
      obtain ⟨R, hRr⟩ : ∃ R, sinceT S ((M : Int) - 32) = R := ⟨_, rfl⟩
      have hRl : R.1.length ≤ 1000000 := by
        rw [← hRr]; unfold sinceT
        split
        · exact Nat.le_trans (srt_len _) (by rw [List.length_drop]; have := HN.out.2; omega)
        · simp
      rw [hRr] at hsn
      have wsub : wrap64 ((M : Int) - 32) = (M : Int) - 32 := w64_ (by omega) (by omega)
      have HRr := Aside0.mk hRr
      clear hCk hC1 hRr
      go_wp2_with fail
      refine hsn.mono ?_
      rintro e w3 ⟨v3, rfl, hR3, hb3⟩
      clear hsn
      have hR4 := HX.out.2.1.below hb3
      have hrs := rsince_calls hR4 (by have := HN.out.2; omega) ((M : Int) - 32)
      rw [HRr.out] at hrs
      have x1' := (hb3.cell (p := ⟨r, 1, none⟩) (HX.out.2.1.bound r HX.out.2.1.own).2).trans x1
      have H3 := Aside0.mk (And.intro hR3 hb3)
      clear hR3 hb3 hR4
      go_wp2_with fail
      refine hrs.mono ?_
      rintro e w4 ⟨v4, rfl, hR4, hb4⟩
      clear hrs
      have hR3 := Kd.R_below H3.out.1 hb4
      obtain ⟨A3, c3, rfl, hc3, hC3⟩ := Kd.R_reads hR3
      obtain ⟨A4, c4, rfl, hc4, hC4⟩ := Kd.R_reads hR4
      have htx := texts_calls hRl hC3 hc3 hC4 hc4
      have H4 := Aside0.mk ((H1.out.2.2.1.trans (HB.out.mono H1.out.2.2.1.size)).trans ((H3.out.2.mono (Nat.le_trans H1.out.2.2.1.size HB.out.size)).trans (hb4.mono (Nat.le_trans (Nat.le_trans H1.out.2.2.1.size HB.out.size) H3.out.2.size))))
      clear hR3 hR4 hb4 hC3 hC4 x1'
      cases hR2 : R.2
      all_goals
        go_wp2_with fail
        refine htx.mono ?_
        rintro e w5 ⟨rfl, ⟨n5, rfl⟩⟩
        clear htx
        go_wp2_with fail
        go_ret
        exact ⟨rfl, H4.out.trans ((pw_below_drewN (Below.refl _ w4) n5).mono H4.out.size)⟩
end Go.Proofs.Ytkldaghhfnpcjaa.P
