/- brickyardref16.Parse: a round, out of its cases. -/
import Derived.Test.YtahdgaaedilcmaaGRCA
import Derived.Test.YtahdgaaedilcmaaGRCW
namespace Go.Proofs.Ytahdgaaedilcmaa.P
open Go.RowKit Go.Proofs.YtahdgaaedilcmaaW.PrintWords Go.Proofs.YtahdgaaedilcmaaW.PrintLast Go.Proofs.YtahdgaaedilcmaaW.PrintMore
set_option linter.unusedVariables false
set_option linter.unusedSimpArgs false
set_option maxHeartbeats 4000000 in
set_option maxRecDepth 1000000 in
theorem rp_Z (a0 : ByteArray) (l : List S61) (bad : Int) (out : List S32) (words : List ByteArray) (mark : Bool) (i : Int) (vL vO vW u1 u2 u10 u11 u12 u13 u14 u15 u16 u17 u18 u19 u20 u21 u22 u23 u24 u25 u26 u27 u28 u29 u30 u31 u32 u33 u34 u35 u36 u37 u38 u39 u40 u41 u42 u43 u44 u45 u46 u47 u48 u49 u50 u51 u52 u53 u54 u55 u56 u57 u58 u59 u60 u61 u62 u63 u64 u65 u66 u67 u68 u69 u70 u71 u72 u73 u74 u75 u76 u77 u78 u79 u80 u81 u82 u83 u84 u85 u86 u87 u88 u89 u90 u91 u92 u93 u94 u95 u96 u97 u98 u99 u100 u101 u102 u103 u104 u105 u106 u107 u108 u109 u110 u111 u112 u113 u114 u115 u116 u117 u118 u119 u120 u121 u122 u123 u124 u125 u126 u127 u128 u129 : Value) (w wr : World) (K : Act → World → Prop) (Q : Exit → Act → World → Prop)
    (hM : QMem w w.heap.size vL l vO out vW words wr) (hexit : ∀ a' w', RpEnd a0 w l bad out a' w' → Q (.exit 0) a' w') (c1 : ¬ i < (l.length : Int)) :
    Code.wp Try.prog rpBody (Exit.then K Q) { tmps := #[.string a0, u1, u2, .pointer (some ⟨w.heap.size, 0, none⟩), vL, .int .i64 bad, vO, vW, .bool mark, .int .i64 i, u10, u11, u12, u13, u14, u15, u16, u17, u18, u19, u20, u21, u22, u23, u24, u25, u26, u27, u28, u29, u30, u31, u32, u33, u34, u35, u36, u37, u38, u39, u40, u41, u42, u43, u44, u45, u46, u47, u48, u49, u50, u51, u52, u53, u54, u55, u56, u57, u58, u59, u60, u61, u62, u63, u64, u65, u66, u67, u68, u69, u70, u71, u72, u73, u74, u75, u76, u77, u78, u79, u80, u81, u82, u83, u84, u85, u86, u87, u88, u89, u90, u91, u92, u93, u94, u95, u96, u97, u98, u99, u100, u101, u102, u103, u104, u105, u106, u107, u108, u109, u110, u111, u112, u113, u114, u115, u116, u117, u118, u119, u120, u121, u122, u123, u124, u125, u126, u127, u128, u129], defers := [] } wr := by
  obtain ⟨k0, k0b, f0, f0b, ⟨AL, cL, rfl, hcL, hL⟩, ⟨AO, cO, rfl⟩, ⟨AW, cW, rfl, hcW, hW⟩⟩ := hM.cells
  have c1b : decide (i < (l.length : Int)) = false := decide_eq_false c1
  clear c1
  conv => arg 2; whnf
  go_wp2
  first | exact RpEnd.mk' _ _ _ _ _ _ _ _ _ _ _ _ _ _ _ _ _ _ _ _ _ _ _ _ _ _ _ _ _ _ _ _ _ _ _ _ _ _ _ _ _ _ _ _ _ _ _ _ _ _ _ _ _ _ _ _ _ _ _ _ _ _ _ _ _ _ _ _ _ _ _ _ _ _ _ _ _ _ _ _ _ _ _ _ _ _ _ _ _ _ _ _ _ _ _ _ _ _ _ _ _ _ _ _ _ _ _ _ _ _ _ _ _ _ _ _ _ _ _ _ _ _ _ _ _ _ _ _ hM | exact hexit _ _ (RpEnd.mk' _ _ _ _ _ _ _ _ _ _ _ _ _ _ _ _ _ _ _ _ _ _ _ _ _ _ _ _ _ _ _ _ _ _ _ _ _ _ _ _ _ _ _ _ _ _ _ _ _ _ _ _ _ _ _ _ _ _ _ _ _ _ _ _ _ _ _ _ _ _ _ _ _ _ _ _ _ _ _ _ _ _ _ _ _ _ _ _ _ _ _ _ _ _ _ _ _ _ _ _ _ _ _ _ _ _ _ _ _ _ _ _ _ _ _ _ _ _ _ _ _ _ _ _ _ _ _ _ hM)
set_option maxHeartbeats 4000000 in
set_option maxRecDepth 1000000 in
theorem rp_round (a0 : ByteArray) (l : List S61) (bad : Int) (n : Nat) (r1 : List S32) (r2 r3 : Int) (w : World) (a : Act) (wr : World) (K : Act → World → Prop) (Q : Exit → Act → World → Prop) (hI : RpSt a0 w l bad r1 r2 r3 n a wr)
    (hK : ∀ m, m < n → ∀ a' w', RpSt a0 w l bad r1 r2 r3 m a' w' → K a' w') (hret : ∀ a' w', bodyPost Try.prog Try.f13 (RPost r1 r2 r3 w) .ret a' w' → Q .ret a' w')
    (hexit : ∀ out, (if 0 ≤ bad then some (([] : List S32), (6 : Int), bad) else some (out, 0, 0)) = some (r1, r2, r3) → ∀ a' w', RpEnd a0 w l bad out a' w' → Q (.exit 0) a' w') : Code.wp Try.prog rpBody (Exit.then K Q) a wr := by
  refine RpSt.elim (C := fun a => Code.wp _ _ _ a wr) hI ?_
  clear hI a
  intro out words mark i vL vO vW u1 u2 u10 u11 u12 u13 u14 u15 u16 u17 u18 u19 u20 u21 u22 u23 u24 u25 u26 u27 u28 u29 u30 u31 u32 u33 u34 u35 u36 u37 u38 u39 u40 u41 u42 u43 u44 u45 u46 u47 u48 u49 u50 u51 u52 u53 u54 u55 u56 u57 u58 u59 u60 u61 u62 u63 u64 u65 u66 u67 u68 u69 u70 u71 u72 u73 u74 u75 u76 u77 u78 u79 u80 u81 u82 u83 u84 u85 u86 u87 u88 u89 u90 u91 u92 u93 u94 u95 u96 u97 u98 u99 u100 u101 u102 u103 u104 u105 u106 u107 u108 u109 u110 u111 u112 u113 u114 u115 u116 u117 u118 u119 u120 u121 u122 u123 u124 u125 u126 u127 u128 u129 h hM
  cases n with
  | zero => exact absurd h (by simp [ref16_Parse.l0])
  | succ m =>
    replace hK := hK m (Nat.lt_succ_self m)
    rw [ref16_Parse.l0] at h
    by_cases hb : 0 ≤ i ∧ i ≤ 100000 ∧ out.length < 100000 ∧ words.length < 100000
    case neg => rw [if_neg hb] at h; cases h
    rw [if_pos hb] at h
    obtain ⟨b1, b2, b3, b4⟩ := hb
    by_cases c1 : i < (l.length : Int)
    case neg => rw [if_neg c1] at h; exact rp_Z a0 l bad out words mark i vL vO vW u1 u2 u10 u11 u12 u13 u14 u15 u16 u17 u18 u19 u20 u21 u22 u23 u24 u25 u26 u27 u28 u29 u30 u31 u32 u33 u34 u35 u36 u37 u38 u39 u40 u41 u42 u43 u44 u45 u46 u47 u48 u49 u50 u51 u52 u53 u54 u55 u56 u57 u58 u59 u60 u61 u62 u63 u64 u65 u66 u67 u68 u69 u70 u71 u72 u73 u74 u75 u76 u77 u78 u79 u80 u81 u82 u83 u84 u85 u86 u87 u88 u89 u90 u91 u92 u93 u94 u95 u96 u97 u98 u99 u100 u101 u102 u103 u104 u105 u106 u107 u108 u109 u110 u111 u112 u113 u114 u115 u116 u117 u118 u119 u120 u121 u122 u123 u124 u125 u126 u127 u128 u129 w wr K Q hM (hexit out h) c1
    rw [if_pos c1] at h
    by_cases e2 : (rd_T61 l i).f0 = 2
    case pos =>
      rw [if_pos e2] at h
      have k2 := beq_iff_eq.mpr e2
      by_cases hw : words.length = 0
      case pos => rw [if_pos (.inl hw)] at h; exact rp_2w0 a0 l bad out words mark i vL vO vW u1 u2 u10 u11 u12 u13 u14 u15 u16 u17 u18 u19 u20 u21 u22 u23 u24 u25 u26 u27 u28 u29 u30 u31 u32 u33 u34 u35 u36 u37 u38 u39 u40 u41 u42 u43 u44 u45 u46 u47 u48 u49 u50 u51 u52 u53 u54 u55 u56 u57 u58 u59 u60 u61 u62 u63 u64 u65 u66 u67 u68 u69 u70 u71 u72 u73 u74 u75 u76 u77 u78 u79 u80 u81 u82 u83 u84 u85 u86 u87 u88 u89 u90 u91 u92 u93 u94 u95 u96 u97 u98 u99 u100 u101 u102 u103 u104 u105 u106 u107 u108 u109 u110 u111 u112 u113 u114 u115 u116 u117 u118 u119 u120 u121 u122 u123 u124 u125 u126 u127 u128 u129 m r1 r2 r3 w wr K Q hM b1 b2 b3 b4 hK hret c1 k2 (beq_iff_eq.mpr (by omega)) h
      have hw2 : ((words.length : Int) == 0) = false := beq_eq_false_iff_ne.mpr (by omega)
      cases mark with
      | true => rw [if_pos (.inr rfl)] at h; exact rp_2wm a0 l bad out words i vL vO vW u1 u2 u10 u11 u12 u13 u14 u15 u16 u17 u18 u19 u20 u21 u22 u23 u24 u25 u26 u27 u28 u29 u30 u31 u32 u33 u34 u35 u36 u37 u38 u39 u40 u41 u42 u43 u44 u45 u46 u47 u48 u49 u50 u51 u52 u53 u54 u55 u56 u57 u58 u59 u60 u61 u62 u63 u64 u65 u66 u67 u68 u69 u70 u71 u72 u73 u74 u75 u76 u77 u78 u79 u80 u81 u82 u83 u84 u85 u86 u87 u88 u89 u90 u91 u92 u93 u94 u95 u96 u97 u98 u99 u100 u101 u102 u103 u104 u105 u106 u107 u108 u109 u110 u111 u112 u113 u114 u115 u116 u117 u118 u119 u120 u121 u122 u123 u124 u125 u126 u127 u128 u129 m r1 r2 r3 w wr K Q hM b1 b2 b3 b4 hK hret c1 k2 hw2 h
      | false => rw [if_neg (fun e => by rcases e with e | e; exact hw e; cases e)] at h; exact rp_2n a0 l bad out words i vL vO vW u1 u2 u10 u11 u12 u13 u14 u15 u16 u17 u18 u19 u20 u21 u22 u23 u24 u25 u26 u27 u28 u29 u30 u31 u32 u33 u34 u35 u36 u37 u38 u39 u40 u41 u42 u43 u44 u45 u46 u47 u48 u49 u50 u51 u52 u53 u54 u55 u56 u57 u58 u59 u60 u61 u62 u63 u64 u65 u66 u67 u68 u69 u70 u71 u72 u73 u74 u75 u76 u77 u78 u79 u80 u81 u82 u83 u84 u85 u86 u87 u88 u89 u90 u91 u92 u93 u94 u95 u96 u97 u98 u99 u100 u101 u102 u103 u104 u105 u106 u107 u108 u109 u110 u111 u112 u113 u114 u115 u116 u117 u118 u119 u120 u121 u122 u123 u124 u125 u126 u127 u128 u129 m r1 r2 r3 w wr K Q hM b1 b2 b3 b4 hK hret c1 k2 hw2 h
    rw [if_neg e2] at h
    have k2 := beq_eq_false_iff_ne.mpr e2
    by_cases e3 : (rd_T61 l i).f0 = 3
    case pos =>
      rw [if_pos e3] at h
      have k3 := beq_iff_eq.mpr e3
      by_cases hw : words.length = 0
      case pos => rw [if_pos hw] at h; exact rp_3n a0 l bad out words mark i vL vO vW u1 u2 u10 u11 u12 u13 u14 u15 u16 u17 u18 u19 u20 u21 u22 u23 u24 u25 u26 u27 u28 u29 u30 u31 u32 u33 u34 u35 u36 u37 u38 u39 u40 u41 u42 u43 u44 u45 u46 u47 u48 u49 u50 u51 u52 u53 u54 u55 u56 u57 u58 u59 u60 u61 u62 u63 u64 u65 u66 u67 u68 u69 u70 u71 u72 u73 u74 u75 u76 u77 u78 u79 u80 u81 u82 u83 u84 u85 u86 u87 u88 u89 u90 u91 u92 u93 u94 u95 u96 u97 u98 u99 u100 u101 u102 u103 u104 u105 u106 u107 u108 u109 u110 u111 u112 u113 u114 u115 u116 u117 u118 u119 u120 u121 u122 u123 u124 u125 u126 u127 u128 u129 m r1 r2 r3 w wr K Q hM b1 b2 b3 b4 hK hret c1 k2 k3 (eq_false (by omega)) h
      rw [if_neg hw] at h
      have hw2 : (0 < words.length) = True := eq_true (by omega)
      cases mark with
      | true => rw [if_neg (by decide)] at h; exact rp_3p a0 l bad out words i vL vO vW u1 u2 u10 u11 u12 u13 u14 u15 u16 u17 u18 u19 u20 u21 u22 u23 u24 u25 u26 u27 u28 u29 u30 u31 u32 u33 u34 u35 u36 u37 u38 u39 u40 u41 u42 u43 u44 u45 u46 u47 u48 u49 u50 u51 u52 u53 u54 u55 u56 u57 u58 u59 u60 u61 u62 u63 u64 u65 u66 u67 u68 u69 u70 u71 u72 u73 u74 u75 u76 u77 u78 u79 u80 u81 u82 u83 u84 u85 u86 u87 u88 u89 u90 u91 u92 u93 u94 u95 u96 u97 u98 u99 u100 u101 u102 u103 u104 u105 u106 u107 u108 u109 u110 u111 u112 u113 u114 u115 u116 u117 u118 u119 u120 u121 u122 u123 u124 u125 u126 u127 u128 u129 m r1 r2 r3 w wr K Q hM b1 b2 b3 b4 hK hret c1 k2 k3 hw2 h
      | false => rw [if_pos rfl] at h; exact rp_3w a0 l bad out words i vL vO vW u1 u2 u10 u11 u12 u13 u14 u15 u16 u17 u18 u19 u20 u21 u22 u23 u24 u25 u26 u27 u28 u29 u30 u31 u32 u33 u34 u35 u36 u37 u38 u39 u40 u41 u42 u43 u44 u45 u46 u47 u48 u49 u50 u51 u52 u53 u54 u55 u56 u57 u58 u59 u60 u61 u62 u63 u64 u65 u66 u67 u68 u69 u70 u71 u72 u73 u74 u75 u76 u77 u78 u79 u80 u81 u82 u83 u84 u85 u86 u87 u88 u89 u90 u91 u92 u93 u94 u95 u96 u97 u98 u99 u100 u101 u102 u103 u104 u105 u106 u107 u108 u109 u110 u111 u112 u113 u114 u115 u116 u117 u118 u119 u120 u121 u122 u123 u124 u125 u126 u127 u128 u129 m r1 r2 r3 w wr K Q hM b1 b2 b3 b4 hK hret c1 k2 k3 hw2 h
    rw [if_neg e3] at h
    have k3 := beq_eq_false_iff_ne.mpr e3
    by_cases e4 : (rd_T61 l i).f0 = 4
    case pos =>
      rw [if_pos e4] at h
      have k4 := beq_iff_eq.mpr e4
      by_cases hw : words.length = 1
      case neg => rw [if_neg (fun e => hw e.1)] at h; exact rp_4a a0 l bad out words mark i vL vO vW u1 u2 u10 u11 u12 u13 u14 u15 u16 u17 u18 u19 u20 u21 u22 u23 u24 u25 u26 u27 u28 u29 u30 u31 u32 u33 u34 u35 u36 u37 u38 u39 u40 u41 u42 u43 u44 u45 u46 u47 u48 u49 u50 u51 u52 u53 u54 u55 u56 u57 u58 u59 u60 u61 u62 u63 u64 u65 u66 u67 u68 u69 u70 u71 u72 u73 u74 u75 u76 u77 u78 u79 u80 u81 u82 u83 u84 u85 u86 u87 u88 u89 u90 u91 u92 u93 u94 u95 u96 u97 u98 u99 u100 u101 u102 u103 u104 u105 u106 u107 u108 u109 u110 u111 u112 u113 u114 u115 u116 u117 u118 u119 u120 u121 u122 u123 u124 u125 u126 u127 u128 u129 m r1 r2 r3 w wr K Q hM b1 b2 b3 b4 hK hret c1 k2 k3 k4 (beq_eq_false_iff_ne.mpr (by omega)) h
      have hw2 : ((words.length : Int) == 1) = true := beq_iff_eq.mpr (by omega)
      cases mark with
      | true => rw [if_neg (fun e => by cases e.2)] at h; exact rp_4b a0 l bad out words i vL vO vW u1 u2 u10 u11 u12 u13 u14 u15 u16 u17 u18 u19 u20 u21 u22 u23 u24 u25 u26 u27 u28 u29 u30 u31 u32 u33 u34 u35 u36 u37 u38 u39 u40 u41 u42 u43 u44 u45 u46 u47 u48 u49 u50 u51 u52 u53 u54 u55 u56 u57 u58 u59 u60 u61 u62 u63 u64 u65 u66 u67 u68 u69 u70 u71 u72 u73 u74 u75 u76 u77 u78 u79 u80 u81 u82 u83 u84 u85 u86 u87 u88 u89 u90 u91 u92 u93 u94 u95 u96 u97 u98 u99 u100 u101 u102 u103 u104 u105 u106 u107 u108 u109 u110 u111 u112 u113 u114 u115 u116 u117 u118 u119 u120 u121 u122 u123 u124 u125 u126 u127 u128 u129 m r1 r2 r3 w wr K Q hM b1 b2 b3 b4 hK hret c1 k2 k3 k4 hw2 h
      | false => rw [if_pos ⟨hw, rfl⟩] at h; exact rp_4w a0 l bad out words i vL vO vW u1 u2 u10 u11 u12 u13 u14 u15 u16 u17 u18 u19 u20 u21 u22 u23 u24 u25 u26 u27 u28 u29 u30 u31 u32 u33 u34 u35 u36 u37 u38 u39 u40 u41 u42 u43 u44 u45 u46 u47 u48 u49 u50 u51 u52 u53 u54 u55 u56 u57 u58 u59 u60 u61 u62 u63 u64 u65 u66 u67 u68 u69 u70 u71 u72 u73 u74 u75 u76 u77 u78 u79 u80 u81 u82 u83 u84 u85 u86 u87 u88 u89 u90 u91 u92 u93 u94 u95 u96 u97 u98 u99 u100 u101 u102 u103 u104 u105 u106 u107 u108 u109 u110 u111 u112 u113 u114 u115 u116 u117 u118 u119 u120 u121 u122 u123 u124 u125 u126 u127 u128 u129 m r1 r2 r3 w wr K Q hM b1 b2 b3 b4 hK hret c1 k2 k3 k4 hw2 h
    rw [if_neg e4] at h
    exact rp_K1 a0 l bad out words mark i vL vO vW u1 u2 u10 u11 u12 u13 u14 u15 u16 u17 u18 u19 u20 u21 u22 u23 u24 u25 u26 u27 u28 u29 u30 u31 u32 u33 u34 u35 u36 u37 u38 u39 u40 u41 u42 u43 u44 u45 u46 u47 u48 u49 u50 u51 u52 u53 u54 u55 u56 u57 u58 u59 u60 u61 u62 u63 u64 u65 u66 u67 u68 u69 u70 u71 u72 u73 u74 u75 u76 u77 u78 u79 u80 u81 u82 u83 u84 u85 u86 u87 u88 u89 u90 u91 u92 u93 u94 u95 u96 u97 u98 u99 u100 u101 u102 u103 u104 u105 u106 u107 u108 u109 u110 u111 u112 u113 u114 u115 u116 u117 u118 u119 u120 u121 u122 u123 u124 u125 u126 u127 u128 u129 m r1 r2 r3 w wr K Q hM b1 b2 b3 b4 hK hret c1 k2 k3 (beq_eq_false_iff_ne.mpr e4) h
end Go.Proofs.Ytahdgaaedilcmaa.P
