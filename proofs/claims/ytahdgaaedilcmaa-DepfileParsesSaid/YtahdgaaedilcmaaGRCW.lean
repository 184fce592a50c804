/- brickyardref16.Parse: cases of a round. -/
import Derived.Test.YtahdgaaedilcmaaGRA
namespace Go.Proofs.Ytahdgaaedilcmaa.P
open Go.RowKit Go.Proofs.YtahdgaaedilcmaaW.PrintWords Go.Proofs.YtahdgaaedilcmaaW.PrintLast Go.Proofs.YtahdgaaedilcmaaW.PrintMore
set_option linter.unusedVariables false
set_option linter.unusedSimpArgs false
set_option maxHeartbeats 4000000 in
set_option maxRecDepth 1000000 in
theorem rp_4a (a0 : ByteArray) (l : List S61) (bad : Int) (out : List S32) (words : List ByteArray) (mark : Bool) (i : Int) (vL vO vW u1 u2 u10 u11 u12 u13 u14 u15 u16 u17 u18 u19 u20 u21 u22 u23 u24 u25 u26 u27 u28 u29 u30 u31 u32 u33 u34 u35 u36 u37 u38 u39 u40 u41 u42 u43 u44 u45 u46 u47 u48 u49 u50 u51 u52 u53 u54 u55 u56 u57 u58 u59 u60 u61 u62 u63 u64 u65 u66 u67 u68 u69 u70 u71 u72 u73 u74 u75 u76 u77 u78 u79 u80 u81 u82 u83 u84 u85 u86 u87 u88 u89 u90 u91 u92 u93 u94 u95 u96 u97 u98 u99 u100 u101 u102 u103 u104 u105 u106 u107 u108 u109 u110 u111 u112 u113 u114 u115 u116 u117 u118 u119 u120 u121 u122 u123 u124 u125 u126 u127 u128 u129 : Value) (m : Nat) (r1 : List S32) (r2 r3 : Int) (w wr : World) (K : Act → World → Prop) (Q : Exit → Act → World → Prop)
    (hM : QMem w w.heap.size vL l vO out vW words wr) (b1 : 0 ≤ i) (b2 : i ≤ 100000) (b3 : out.length < 100000) (b4 : words.length < 100000)
    (hK : ∀ a' w', RpSt a0 w l bad r1 r2 r3 m a' w' → K a' w') (hret : ∀ a' w', bodyPost Try.prog Try.f13 (RPost r1 r2 r3 w) .ret a' w' → Q .ret a' w')
    (c1 : i < (l.length : Int)) (k2 : ((rd_T61 l i).f0 == 2) = false) (k3 : ((rd_T61 l i).f0 == 3) = false) (k4 : ((rd_T61 l i).f0 == 4) = true) (d2 : ((words.length : Int) == 1) = false)
    (h : ref16_Parse.l1 m l bad out words mark i [(rd_T61 l i).f1] = some (r1, r2, r3)) :
    Code.wp Try.prog rpBody (Exit.then K Q) { tmps := #[.string a0, u1, u2, .pointer (some ⟨w.heap.size, 0, none⟩), vL, .int .i64 bad, vO, vW, .bool mark, .int .i64 i, u10, u11, u12, u13, u14, u15, u16, u17, u18, u19, u20, u21, u22, u23, u24, u25, u26, u27, u28, u29, u30, u31, u32, u33, u34, u35, u36, u37, u38, u39, u40, u41, u42, u43, u44, u45, u46, u47, u48, u49, u50, u51, u52, u53, u54, u55, u56, u57, u58, u59, u60, u61, u62, u63, u64, u65, u66, u67, u68, u69, u70, u71, u72, u73, u74, u75, u76, u77, u78, u79, u80, u81, u82, u83, u84, u85, u86, u87, u88, u89, u90, u91, u92, u93, u94, u95, u96, u97, u98, u99, u100, u101, u102, u103, u104, u105, u106, u107, u108, u109, u110, u111, u112, u113, u114, u115, u116, u117, u118, u119, u120, u121, u122, u123, u124, u125, u126, u127, u128, u129], defers := [] } wr := by
  obtain ⟨k0, k0b, f0, f0b, ⟨AL, cL, rfl, hcL, hL⟩, ⟨AO, cO, rfl⟩, ⟨AW, cW, rfl, hcW, hW⟩⟩ := hM.cells
  have c1b : decide (i < (l.length : Int)) = true := decide_eq_true c1
  obtain ⟨ad, hA, hx0, hx1, hx2⟩ := at_T61 hL i b1 c1
  subst hA
  obtain ⟨ws, hws⟩ : ∃ ws, ws = wr := ⟨_, rfl⟩
  subst hws
  have H' := Aside0.mk h
  clear h hret
  conv => arg 2; whnf
  go_wp2
  have hr0 : Kd.R (Kd.int .u8) 5 (ws.alloc (.cells #[.int .u8 (rd_T61 l i).f1] 5)) ws.heap.size (fun _ => True) (.slice (some ⟨ws.heap.size, 0, none⟩) 1 1) [(rd_T61 l i).f1] := Kd.R_of_own (own_lit ws ws.heap.size 5 .u8 [(rd_T61 l i).f1] (Nat.le_refl _) (by simp)) (fun _ _ => trivial)
  have hb0 : Below ws.heap.size ws (ws.alloc (.cells #[.int .u8 (rd_T61 l i).f1] 5)) := (Below.refl _ _).alloc (Nat.le_refl _) _
  go_loopg [9, 10] m (fun n iv sv wq => ∃ (j : Int) (s : List Int), iv = .int .i64 j ∧ Aside0 (0 ≤ j) ∧ Aside0 (ref16_Parse.l1 n l bad out words mark j s = some (r1, r2, r3)) ∧ Aside0 (Below ws.heap.size ws wq) ∧ Aside0 (Kd.R (Kd.int .u8) 5 wq ws.heap.size (fun _ => True) sv s) ∧ Aside0 (n ≤ m))
  case atStart => exact ⟨i, _, rfl, ⟨b1⟩, H', ⟨hb0⟩, ⟨hr0⟩, ⟨Nat.le_refl _⟩⟩
  case round =>
    obtain ⟨j, s, rfl, ⟨j0⟩, HA, ⟨hbq⟩, ⟨hrq⟩, ⟨hgm⟩⟩ := hrel
    cases gk with
    | zero => exact absurd HA.out (by simp [ref16_Parse.l1])
    | succ n =>
      have h := HA.out
      clear HA
      rw [ref16_Parse.l1] at h
      by_cases hbd : 0 ≤ j ∧ j ≤ 100000 ∧ s.length < 100000 ∧ words.length < 100000
      case neg => rw [if_neg hbd] at h; cases h
      rw [if_pos hbd] at h
      obtain ⟨_, j2, j3, j4⟩ := hbd
      obtain ⟨AS, cS, rfl⟩ := Kd.R_slice hrq
      have hLq := Kd.C_below hL hbq
      by_cases e1 : j + 1 < (l.length : Int)
      case neg =>
        rw [if_neg (fun e => e1 e.1)] at h
        have e1b : decide (j + 1 < (l.length : Int)) = false := decide_eq_false e1
        have H2 := Aside0.mk (at_rounds (fun k => (ref16_Parse.mono_l k).1 l bad out (words ++ [strOfNums s]) mark (j + 1)) (show n ≤ m by omega) h)
        clear h e1
        have hcv := own_string (P := Try.prog) Try.underlying35 Try.underlying5 Try.underlying9 (Kd.own_of_R hrq)
        have hMq := hM.below_ hbq
        go_wp2_with (first | (at_builtin; refine word_event (w := wr) rfl rfl rfl rfl hMq (by omega) ?_; intro A6 c6 w1 hQ) | go_in)
        all_goals exact RpSt.mk' _ _ _ _ _ _ _ _ _ _ _ _ _ _ _ _ _ _ _ _ _ _ _ _ _ _ _ _ _ _ _ _ _ _ _ _ _ _ _ _ _ _ _ _ _ _ _ _ _ _ _ _ _ _ _ _ _ _ _ _ _ _ _ _ _ _ _ _ _ _ _ _ _ _ _ _ _ _ _ _ _ _ _ _ _ _ _ _ _ _ _ _ _ _ _ _ _ _ _ _ _ _ _ _ _ _ _ _ _ _ _ _ _ _ _ _ _ _ _ _ _ _ _ _ _ _ _ _ _ H2.out (by assumption)
      have e1b : decide (j + 1 < (l.length : Int)) = true := decide_eq_true e1
      obtain ⟨ad2, hA2, hz0, hz1, hz2⟩ := at_T61 hLq (j + 1) (by omega) e1
      obtain rfl := Option.some.inj hA2
      by_cases e2 : (rd_T61 l (j + 1)).f0 = 4
      · rw [if_pos ⟨e1, e2⟩] at h
        have e2b : ((rd_T61 l (j + 1)).f0 == 4) = true := beq_iff_eq.mpr e2
        have H2 := Aside0.mk h
        clear h
        go_wp2_with (first | (at_builtin; refine byte_event (wr := ws) (w := wr) rfl rfl rfl rfl hbq hrq (by omega) ?_; intro A6 c6 w1 hS1 hb1) | go_in)
        go_roundg n
        case measure => omega
        case rel => exact ⟨j + 1, _, by first | rfl | (simp; done), ⟨by omega⟩, H2, ⟨by assumption⟩, ⟨by assumption⟩, ⟨by omega⟩⟩
      · rw [if_neg (fun e => e2 e.2)] at h
        have e2b : ((rd_T61 l (j + 1)).f0 == 4) = false := beq_eq_false_iff_ne.mpr e2
        have H2 := Aside0.mk (at_rounds (fun k => (ref16_Parse.mono_l k).1 l bad out (words ++ [strOfNums s]) mark (j + 1)) (show n ≤ m by omega) h)
        clear h e2
        have hcv := own_string (P := Try.prog) Try.underlying35 Try.underlying5 Try.underlying9 (Kd.own_of_R hrq)
        have hMq := hM.below_ hbq
        go_wp2_with (first | (at_builtin; refine word_event (w := wr) rfl rfl rfl rfl hMq (by omega) ?_; intro A6 c6 w1 hQ) | go_in)
        all_goals exact RpSt.mk' _ _ _ _ _ _ _ _ _ _ _ _ _ _ _ _ _ _ _ _ _ _ _ _ _ _ _ _ _ _ _ _ _ _ _ _ _ _ _ _ _ _ _ _ _ _ _ _ _ _ _ _ _ _ _ _ _ _ _ _ _ _ _ _ _ _ _ _ _ _ _ _ _ _ _ _ _ _ _ _ _ _ _ _ _ _ _ _ _ _ _ _ _ _ _ _ _ _ _ _ _ _ _ _ _ _ _ _ _ _ _ _ _ _ _ _ _ _ _ _ _ _ _ _ _ _ _ _ _ H2.out (by assumption)
set_option maxHeartbeats 4000000 in
set_option maxRecDepth 1000000 in
theorem rp_4b (a0 : ByteArray) (l : List S61) (bad : Int) (out : List S32) (words : List ByteArray) (i : Int) (vL vO vW u1 u2 u10 u11 u12 u13 u14 u15 u16 u17 u18 u19 u20 u21 u22 u23 u24 u25 u26 u27 u28 u29 u30 u31 u32 u33 u34 u35 u36 u37 u38 u39 u40 u41 u42 u43 u44 u45 u46 u47 u48 u49 u50 u51 u52 u53 u54 u55 u56 u57 u58 u59 u60 u61 u62 u63 u64 u65 u66 u67 u68 u69 u70 u71 u72 u73 u74 u75 u76 u77 u78 u79 u80 u81 u82 u83 u84 u85 u86 u87 u88 u89 u90 u91 u92 u93 u94 u95 u96 u97 u98 u99 u100 u101 u102 u103 u104 u105 u106 u107 u108 u109 u110 u111 u112 u113 u114 u115 u116 u117 u118 u119 u120 u121 u122 u123 u124 u125 u126 u127 u128 u129 : Value) (m : Nat) (r1 : List S32) (r2 r3 : Int) (w wr : World) (K : Act → World → Prop) (Q : Exit → Act → World → Prop)
    (hM : QMem w w.heap.size vL l vO out vW words wr) (b1 : 0 ≤ i) (b2 : i ≤ 100000) (b3 : out.length < 100000) (b4 : words.length < 100000)
    (hK : ∀ a' w', RpSt a0 w l bad r1 r2 r3 m a' w' → K a' w') (hret : ∀ a' w', bodyPost Try.prog Try.f13 (RPost r1 r2 r3 w) .ret a' w' → Q .ret a' w')
    (c1 : i < (l.length : Int)) (k2 : ((rd_T61 l i).f0 == 2) = false) (k3 : ((rd_T61 l i).f0 == 3) = false) (k4 : ((rd_T61 l i).f0 == 4) = true) (d2 : ((words.length : Int) == 1) = true)
    (h : ref16_Parse.l1 m l bad out words true i [(rd_T61 l i).f1] = some (r1, r2, r3)) :
    Code.wp Try.prog rpBody (Exit.then K Q) { tmps := #[.string a0, u1, u2, .pointer (some ⟨w.heap.size, 0, none⟩), vL, .int .i64 bad, vO, vW, .bool true, .int .i64 i, u10, u11, u12, u13, u14, u15, u16, u17, u18, u19, u20, u21, u22, u23, u24, u25, u26, u27, u28, u29, u30, u31, u32, u33, u34, u35, u36, u37, u38, u39, u40, u41, u42, u43, u44, u45, u46, u47, u48, u49, u50, u51, u52, u53, u54, u55, u56, u57, u58, u59, u60, u61, u62, u63, u64, u65, u66, u67, u68, u69, u70, u71, u72, u73, u74, u75, u76, u77, u78, u79, u80, u81, u82, u83, u84, u85, u86, u87, u88, u89, u90, u91, u92, u93, u94, u95, u96, u97, u98, u99, u100, u101, u102, u103, u104, u105, u106, u107, u108, u109, u110, u111, u112, u113, u114, u115, u116, u117, u118, u119, u120, u121, u122, u123, u124, u125, u126, u127, u128, u129], defers := [] } wr := by
  obtain ⟨k0, k0b, f0, f0b, ⟨AL, cL, rfl, hcL, hL⟩, ⟨AO, cO, rfl⟩, ⟨AW, cW, rfl, hcW, hW⟩⟩ := hM.cells
  have c1b : decide (i < (l.length : Int)) = true := decide_eq_true c1
  obtain ⟨ad, hA, hx0, hx1, hx2⟩ := at_T61 hL i b1 c1
  subst hA
  obtain ⟨ws, hws⟩ : ∃ ws, ws = wr := ⟨_, rfl⟩
  subst hws
  have H' := Aside0.mk h
  clear h hret
  conv => arg 2; whnf
  go_wp2
  have hr0 : Kd.R (Kd.int .u8) 5 (ws.alloc (.cells #[.int .u8 (rd_T61 l i).f1] 5)) ws.heap.size (fun _ => True) (.slice (some ⟨ws.heap.size, 0, none⟩) 1 1) [(rd_T61 l i).f1] := Kd.R_of_own (own_lit ws ws.heap.size 5 .u8 [(rd_T61 l i).f1] (Nat.le_refl _) (by simp)) (fun _ _ => trivial)
  have hb0 : Below ws.heap.size ws (ws.alloc (.cells #[.int .u8 (rd_T61 l i).f1] 5)) := (Below.refl _ _).alloc (Nat.le_refl _) _
  go_loopg [9, 10] m (fun n iv sv wq => ∃ (j : Int) (s : List Int), iv = .int .i64 j ∧ Aside0 (0 ≤ j) ∧ Aside0 (ref16_Parse.l1 n l bad out words true j s = some (r1, r2, r3)) ∧ Aside0 (Below ws.heap.size ws wq) ∧ Aside0 (Kd.R (Kd.int .u8) 5 wq ws.heap.size (fun _ => True) sv s) ∧ Aside0 (n ≤ m))
  case atStart => exact ⟨i, _, rfl, ⟨b1⟩, H', ⟨hb0⟩, ⟨hr0⟩, ⟨Nat.le_refl _⟩⟩
  case round =>
    obtain ⟨j, s, rfl, ⟨j0⟩, HA, ⟨hbq⟩, ⟨hrq⟩, ⟨hgm⟩⟩ := hrel
    cases gk with
    | zero => exact absurd HA.out (by simp [ref16_Parse.l1])
    | succ n =>
      have h := HA.out
      clear HA
      rw [ref16_Parse.l1] at h
      by_cases hbd : 0 ≤ j ∧ j ≤ 100000 ∧ s.length < 100000 ∧ words.length < 100000
      case neg => rw [if_neg hbd] at h; cases h
      rw [if_pos hbd] at h
      obtain ⟨_, j2, j3, j4⟩ := hbd
      obtain ⟨AS, cS, rfl⟩ := Kd.R_slice hrq
      have hLq := Kd.C_below hL hbq
      by_cases e1 : j + 1 < (l.length : Int)
      case neg =>
        rw [if_neg (fun e => e1 e.1)] at h
        have e1b : decide (j + 1 < (l.length : Int)) = false := decide_eq_false e1
        have H2 := Aside0.mk (at_rounds (fun k => (ref16_Parse.mono_l k).1 l bad out (words ++ [strOfNums s]) true (j + 1)) (show n ≤ m by omega) h)
        clear h e1
        have hcv := own_string (P := Try.prog) Try.underlying35 Try.underlying5 Try.underlying9 (Kd.own_of_R hrq)
        have hMq := hM.below_ hbq
        go_wp2_with (first | (at_builtin; refine word_event (w := wr) rfl rfl rfl rfl hMq (by omega) ?_; intro A6 c6 w1 hQ) | go_in)
        all_goals exact RpSt.mk' _ _ _ _ _ _ _ _ _ _ _ _ _ _ _ _ _ _ _ _ _ _ _ _ _ _ _ _ _ _ _ _ _ _ _ _ _ _ _ _ _ _ _ _ _ _ _ _ _ _ _ _ _ _ _ _ _ _ _ _ _ _ _ _ _ _ _ _ _ _ _ _ _ _ _ _ _ _ _ _ _ _ _ _ _ _ _ _ _ _ _ _ _ _ _ _ _ _ _ _ _ _ _ _ _ _ _ _ _ _ _ _ _ _ _ _ _ _ _ _ _ _ _ _ _ _ _ _ _ H2.out (by assumption)
      have e1b : decide (j + 1 < (l.length : Int)) = true := decide_eq_true e1
      obtain ⟨ad2, hA2, hz0, hz1, hz2⟩ := at_T61 hLq (j + 1) (by omega) e1
      obtain rfl := Option.some.inj hA2
      by_cases e2 : (rd_T61 l (j + 1)).f0 = 4
      · rw [if_pos ⟨e1, e2⟩] at h
        have e2b : ((rd_T61 l (j + 1)).f0 == 4) = true := beq_iff_eq.mpr e2
        have H2 := Aside0.mk h
        clear h
        go_wp2_with (first | (at_builtin; refine byte_event (wr := ws) (w := wr) rfl rfl rfl rfl hbq hrq (by omega) ?_; intro A6 c6 w1 hS1 hb1) | go_in)
        go_roundg n
        case measure => omega
        case rel => exact ⟨j + 1, _, by first | rfl | (simp; done), ⟨by omega⟩, H2, ⟨by assumption⟩, ⟨by assumption⟩, ⟨by omega⟩⟩
      · rw [if_neg (fun e => e2 e.2)] at h
        have e2b : ((rd_T61 l (j + 1)).f0 == 4) = false := beq_eq_false_iff_ne.mpr e2
        have H2 := Aside0.mk (at_rounds (fun k => (ref16_Parse.mono_l k).1 l bad out (words ++ [strOfNums s]) true (j + 1)) (show n ≤ m by omega) h)
        clear h e2
        have hcv := own_string (P := Try.prog) Try.underlying35 Try.underlying5 Try.underlying9 (Kd.own_of_R hrq)
        have hMq := hM.below_ hbq
        go_wp2_with (first | (at_builtin; refine word_event (w := wr) rfl rfl rfl rfl hMq (by omega) ?_; intro A6 c6 w1 hQ) | go_in)
        all_goals exact RpSt.mk' _ _ _ _ _ _ _ _ _ _ _ _ _ _ _ _ _ _ _ _ _ _ _ _ _ _ _ _ _ _ _ _ _ _ _ _ _ _ _ _ _ _ _ _ _ _ _ _ _ _ _ _ _ _ _ _ _ _ _ _ _ _ _ _ _ _ _ _ _ _ _ _ _ _ _ _ _ _ _ _ _ _ _ _ _ _ _ _ _ _ _ _ _ _ _ _ _ _ _ _ _ _ _ _ _ _ _ _ _ _ _ _ _ _ _ _ _ _ _ _ _ _ _ _ _ _ _ _ _ H2.out (by assumption)
end Go.Proofs.Ytahdgaaedilcmaa.P
