/- TreeNames' own function, walked. -/
import Derived.Test.YtkldaghhfnpcjaaGLawPlaysW
import Derived.Test.YtkldaghhfnpcjaaGTwin
import Derived.Test.YtkldaghhfnpcjaaPlNames
namespace Go.Proofs.Ytkldaghhfnpcjaa.P
open Go.RowKit Go.Maps Go.Proofs.YtkldaghhfnpcjaaW.PrintWords Go.Proofs.YtkldaghhfnpcjaaW.PrintLast Go.Proofs.YtkldaghhfnpcjaaW.PrintMore Go.Proofs.Ytkldaghhfnpcjaa.Pl
set_option linter.unusedVariables false
set_option linter.unusedSimpArgs false
theorem TOne.since {fr : Nat → Prop} {w0 w : World} {b0 p : Nat} {S : TS} (h : TOne fr w0 w b0 p S) (n : Int) :
    Calls Try.prog 25 #[.pointer (some ⟨p, 0, none⟩), .int .i64 n] w (fun e w' => ∃ v, e = .returned (.tuple #[v, .bool (sinceT S n).2]) ∧ Kd.R Kd.string 9 w' w.heap.size (fun _ => True) v (sinceT S n).1 ∧ Below w.heap.size w w') := by
  obtain ⟨ok, h1, h2⟩ := h.t
  exact since_calls h1 n
theorem info5n : (Try.prog.info? 5).map (fun i => (i.zero, i.size, i.bytes)) = some (some (.int .u8 0), 1, 1) := by kernel_rfl
theorem nm_of {i : Nat} (hi : i < 256) : (({ data := #[102] } : ByteArray) ++ strOfNums [48 + (i : Int) / 100, 48 + (i : Int) / 10 % 10, 48 + (i : Int) % 10]) = nm i := by
  have e1 : (48 + (i : Int) / 100).toNat = 48 + i / 100 := by omega
  have e2 : (48 + (i : Int) / 10 % 10).toNat = 48 + i / 10 % 10 := by omega
  have e3 : (48 + (i : Int) % 10).toNat = 48 + i % 10 := by omega
  apply ByteArray.ext
  unfold strOfNums nm
  simp [e1, e2, e3]
theorem own3 (w : World) (x y z : Int) (hx : 0 ≤ x ∧ x < 256) (hy : 0 ≤ y ∧ y < 256) (hz : 0 ≤ z ∧ z < 256) :
    (convert 61 9 (.slice (some ⟨w.heap.size, 0, none⟩) 3 3)).run Try.prog (w.alloc (.cells #[.int .u8 x, .int .u8 y, .int .u8 z] 5)) = .ok (.string (strOfNums [x, y, z])) (w.alloc (.cells #[.int .u8 x, .int .u8 y, .int .u8 z] 5)) := by
  refine own_string (e' := 5) (base := w.heap.size) Try.underlying61 Try.underlying5 Try.underlying9 (n := 3) ⟨rfl, .inr ⟨w.heap.size, 3, _, rfl, Nat.le_refl _, World.alloc_heap_new w _, by omega, by unfold maxLen; omega, rfl, rfl⟩⟩
set_option maxRecDepth 100000 in
set_option maxHeartbeats 8000000 in
theorem names_walk (w : World) : Calls Try.prog 7 #[] w fun e w' => e = .returned (.bool true) ∧ Below w.heap.size w w' := by
  go_enter Try.func7, Try.ntmps7
  go_wp2_with fail
  refine (works_calls w).mono ?_
  rintro e w2 ⟨rfl, hB1⟩
  have H2 := Aside0.mk hB1
  clear hB1
  go_wp2_with fail
  refine (tnew_calls w2).mono ?_
  rintro e w3 ⟨rfl, hM3, hB3⟩
  have H3 := Aside0.mk (And.intro (tone_new hM3) (And.intro (H2.out.trans (hB3.mono H2.out.size)) hB3.size))
  clear hM3 hB3
  go_wp2_with fail
  go_loopg [2] 257 (fun n v2 wr => ∃ i : Nat, v2 = .int .i64 (i : Int) ∧ Aside0 (i + n = 257 ∧ i ≤ 256) ∧ Aside0 (TOne (fun _ => False) wr wr w2.heap.size (w2.heap.size + 1) (fullS i)) ∧ Aside0 (Below w.heap.size w wr))
  case atStart => exact ⟨0, rfl, ⟨by omega, by omega⟩, ⟨H3.out.1⟩, ⟨H3.out.2.1⟩⟩
  case round =>
    obtain ⟨i, rfl, HI, HT, HB⟩ := hrel
    by_cases c1 : i < 256
    · have k1 : decide ((i : Int) < 256) = true := decide_eq_true (by omega)
      have i0 : (0 : Int) ≤ (i : Int) := by omega
      have hcv := own3 wr (48 + (i : Int) / 100) (48 + (i : Int) / 10 % 10) (48 + (i : Int) % 10) (by omega) (by omega) (by omega)
      have hba := (Below.refl wr.heap.size wr).alloc (Nat.le_refl _) (.cells #[.int .u8 (48 + (i : Int) / 100), .int .u8 (48 + (i : Int) / 10 % 10), .int .u8 (48 + (i : Int) % 10)] 5)
      have HA := Aside0.mk (And.intro (HT.out.below hba) (HB.out.trans (hba.mono HB.out.size)))
      clear hba
      have hnm := nm_of c1
      have hFs : (strOfNums [48 + (i : Int) / 100, 48 + (i : Int) / 10 % 10, 48 + (i : Int) % 10]).size ≤ 3 := by rw [strOfNums_size]; simp
      generalize strOfNums [48 + (i : Int) / 100, 48 + (i : Int) / 10 % 10, 48 + (i : Int) % 10] = F at *
      have hwr := HA.out.1.write (nm i) ⟨#[]⟩ (by have := isP_size (nm_isP i c1); unfold maxLen; omega) (by rw [(full_len i).2]; omega)
      rw [full_round c1] at hwr
      have HN := Aside0.mk hnm
      clear hnm
      go_wp2_with fail
      rw [HN.out]
      refine hwr.mono ?_
      rintro e w5 ⟨rfl, hT5, hB5⟩
      clear hwr
      have H6 := Aside0.mk (And.intro hT5 (HA.out.2.trans (hB5.mono H2.out.size)))
      clear hT5 hB5
      go_wp2_with fail
      go_roundg (gk - 1)
      case measure => have := HI.out; omega
      case rel => exact ⟨i + 1, by first | rfl | (rw [w64_ (by omega) (by omega)]; rfl) | simp, ⟨by have := HI.out; omega, by omega⟩, ⟨⟨H6.out.1.t.choose, H6.out.1.t.choose_spec.1, fun k hk => hk.elim⟩⟩, ⟨H6.out.2⟩⟩
    · have k1 : decide ((i : Int) < 256) = false := decide_eq_false (by omega)
      have hi := HI.out
      obtain rfl : i = 256 := by omega
      clear hi c1
      have hm4 : (⟨#[103]⟩ : ByteArray).size ≤ maxLen ∧ (⟨#[102, 48, 48, 48]⟩ : ByteArray).size ≤ maxLen ∧ (⟨#[102, 48, 48, 49]⟩ : ByteArray).size ≤ maxLen ∧ (⟨#[102, 48, 48, 50]⟩ : ByteArray).size ≤ maxLen ∧ (⟨#[70]⟩ : ByteArray).size ≤ maxLen := by decide
      have HM := Aside0.mk hm4
      clear hm4
      have hw1 := HT.out.write gB ⟨#[]⟩ HM.out.1 (by rw [(full_len 256).2]; omega)
      rw [full_N1] at hw1
      go_wp2_with fail
      refine hw1.mono ?_
      rintro e wa ⟨rfl, hTa, hBa⟩
      clear hw1
      have hw2 := hTa.write (nm 0) xB HM.out.2.1 (by rw [(full_len 256).2]; omega)
      rw [full_N2] at hw2
      have HA := Aside0.mk (HB.out.trans (hBa.mono H2.out.size))
      clear hTa hBa
      go_wp2_with fail
      refine hw2.mono ?_
      rintro e wb ⟨rfl, hTb, hBb⟩
      clear hw2
      have hln := hTb.len
      have hmk := hTb.mark
      rw [show ((S1.fs.length : Nat) : Int) = 256 by rw [S1_len.1]; rfl] at hln
      rw [show ((S1.cs.length : Nat) : Int) = 257 by rw [S1_len.2]; rfl] at hmk
      have HB2 := Aside0.mk (And.intro hTb (HA.out.trans (hBb.mono H2.out.size)))
      clear hTb hBb
      go_wp2_with fail
      refine hln.mono ?_
      rintro e wc ⟨rfl, rfl⟩
      clear hln
      go_wp2_with fail
      refine hmk.mono ?_
      rintro e wd ⟨rfl, rfl⟩
      clear hmk
      go_wp2_with fail
      refine (HB2.out.1.since 225).mono ?_
      rintro e w10 ⟨v1, rfl, hR1, hB1⟩
      obtain ⟨A1, c1, rfl⟩ := Kd.R_slice hR1
      rw [S1_since.1, S1_since.2]
      have H10 := Aside0.mk (And.intro (HB2.out.1.below hB1) (HB2.out.2.trans (hB1.mono HB2.out.2.size)))
      clear hR1 hB1
      go_wp2_with fail
      refine (H10.out.1.since 224).mono ?_
      rintro e w11 ⟨v1, rfl, hR1, hB1⟩
      obtain ⟨A2, c2, rfl⟩ := Kd.R_slice hR1
      rw [S1_since2]
      have H11 := Aside0.mk (And.intro (H10.out.1.below hB1) (H10.out.2.trans (hB1.mono H10.out.2.size)))
      clear hR1 hB1
      go_wp2_with fail
      refine (H11.out.1.since 257).mono ?_
      rintro e w12 ⟨v1, rfl, hR1, hB1⟩
      obtain ⟨A3, c3, rfl⟩ := Kd.R_slice hR1
      rw [S1_since3]
      have H12 := Aside0.mk (And.intro (H11.out.1.below hB1) (H11.out.2.trans (hB1.mono H11.out.2.size)))
      clear hR1 hB1
      go_wp2_with fail
      refine (H12.out.1.since 258).mono ?_
      rintro e w13 ⟨v1, rfl, hR1, hB1⟩
      obtain ⟨A4, c4, rfl⟩ := Kd.R_slice hR1
      rw [S1_since4]
      have H13 := Aside0.mk (And.intro (H12.out.1.below hB1) (H12.out.2.trans (hB1.mono H12.out.2.size)))
      clear hR1 hB1
      go_wp2_with (first | (at_make; refine Kd.R_make (Kd.int .u8) (w0 := w13) (W := w13) w13.heap.size 5 rfl rfl 61 _ _ rfl 4096 rfl rfl Try.underlying61 (.int .u8 0) 1 info5n rfl (by decide) (by decide) 0 (ok := fun k => k = w13.heap.size) (okp := fun _ => False) rfl (fun _ h => h.elim) rfl (by decide) (by decide) (Below.refl _ _) (Nat.le_refl _) ?_; intro v1 w14 hR14 hb14 hg14 hfr14; (obtain ⟨A5, c5, rfl, hcc, hCC⟩ := Kd.R_reads hR14); have hrn : (List.replicate (4096 : Int).toNat (0 : Int)).length = 4096 := List.length_replicate; rw [hrn] at hCC ⊢; have hcv := fun c => Kd.C_string (c := c) (dst := 9) Try.underlying61 Try.underlying5 Try.underlying9 hCC; obtain ⟨F, hF⟩ : ∃ F, strOfNums (List.replicate (4096 : Int).toNat (0 : Int)) = F := ⟨_, rfl⟩; have hFs : F.size = 4096 := (by rw [← hF, strOfNums_size]; exact hrn); rw [hF] at hcv; have HF := Aside0.mk hFs; have hFle : F.size ≤ 4096 := Nat.le_of_eq hFs; have H14 := Aside0.mk (And.intro (H13.out.1.below hb14) (H13.out.2.trans (hb14.mono H13.out.2.size))); clear hR14 hb14 hg14 hfr14 hcc hCC hF hrn hFs))
      have hw := H14.out.1.write (nm 1) F HM.out.2.2.1 (by rw [S1_len.2]; omega)
      rw [full_N3 HF.out] at hw
      refine hw.mono ?_
      rintro e w15 ⟨rfl, hT15, hB15⟩
      clear hw
      have hw := hT15.write (nm 1) (F ++ { data := #[120] }) HM.out.2.2.1 (by show (S2 F).cs.length < _; rw [S2_len.2]; omega)
      have hGs : (F ++ { data := #[120] } : ByteArray).size = 4097 := by rw [ByteArray.size_append, HF.out]; rfl
      rw [(full_N4 hGs _).1] at hw
      have HG := Aside0.mk hGs
      clear hGs
      have H15 := Aside0.mk (And.intro hT15 (H14.out.2.trans (hB15.mono H2.out.size)))
      clear hT15 hB15
      go_wp2_with fail
      refine hw.mono ?_
      rintro e w16 ⟨rfl, hT16, hB16⟩
      clear hw
      have hw := hT16.write ⟨#[70]⟩ (F ++ { data := #[120] }) HM.out.2.2.2.2 (by show (S2 F).cs.length < _; rw [S2_len.2]; omega)
      rw [(full_N4 HG.out _).2.1] at hw
      have H16 := Aside0.mk (And.intro hT16 (H15.out.2.trans (hB16.mono H2.out.size)))
      clear hT16 hB16
      go_wp2_with fail
      refine hw.mono ?_
      rintro e w17 ⟨rfl, hT17, hB17⟩
      clear hw
      have hw := hT17.write gB (F ++ { data := #[120] }) HM.out.1 (by show (S2 F).cs.length < _; rw [S2_len.2]; omega)
      rw [(full_N4 HG.out _).2.2] at hw
      have H17 := Aside0.mk (And.intro hT17 (H16.out.2.trans (hB17.mono H2.out.size)))
      clear hT17 hB17
      go_wp2_with fail
      refine hw.mono ?_
      rintro e w18 ⟨rfl, hT18, hB18⟩
      clear hw
      have hw := hT18.remove (nm 2) HM.out.2.2.2.1 (by show (S2 F).cs.length < _; rw [S2_len.2]; omega)
      rw [full_N5] at hw
      have H18 := Aside0.mk (And.intro hT18 (H17.out.2.trans (hB18.mono H2.out.size)))
      clear hT18 hB18
      go_wp2_with fail
      refine hw.mono ?_
      rintro e w19 ⟨rfl, hT19, hB19⟩
      clear hw
      have hw := hT19.write gB ⟨#[]⟩ HM.out.1 (by show (S3 F).cs.length < _; rw [S3_len.2]; omega)
      rw [full_N6] at hw
      have H19 := Aside0.mk (H18.out.2.trans (hB19.mono H2.out.size))
      clear hT19 hB19
      go_wp2_with fail
      refine hw.mono ?_
      rintro e w20 ⟨rfl, hT20, hB20⟩
      clear hw
      have H20 := Aside0.mk (H19.out.trans (hB20.mono H2.out.size))
      clear hT20 hB20
      go_wp2_with fail
      go_ret
      exact ⟨rfl, H20.out⟩
end Go.Proofs.Ytkldaghhfnpcjaa.P
