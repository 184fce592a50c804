/- depfile.Parse: a round, out of its cases. -/
import Derived.Test.YtahdgaaedilcmaaGParseCA
import Derived.Test.YtahdgaaedilcmaaGParseCB
import Derived.Test.YtahdgaaedilcmaaGParseCC
import Derived.Test.YtahdgaaedilcmaaGParseZ
namespace Go.Proofs.Ytahdgaaedilcmaa.P
open Go.RowKit Go.Proofs.YtahdgaaedilcmaaW.PrintWords Go.Proofs.YtahdgaaedilcmaaW.PrintLast Go.Proofs.YtahdgaaedilcmaaW.PrintMore
set_option linter.unusedVariables false
set_option linter.unusedSimpArgs false
set_option maxHeartbeats 4000000 in
set_option maxRecDepth 1000000 in
theorem dp_round (a0 : ByteArray) (n : Nat) (r1 : List S32) (r2 r3 : Int) (w : World) (a : Act) (wr : World) (K : Act → World → Prop) (Q : Exit → Act → World → Prop) (hI : DpSt a0 w r1 r2 r3 n a wr)
    (hK : ∀ m, m < n → ∀ a' w', DpSt a0 w r1 r2 r3 m a' w' → K a' w') (hret : ∀ a' w', bodyPost Try.prog Try.f12 (DPost r1 r2 r3 w) .ret a' w' → Q .ret a' w')
    (hexit : ∀ a' w', DpEnd w r1 r2 r3 a' w' → Q (.exit 0) a' w') : Code.wp Try.prog dpBody (Exit.then K Q) a wr := by
  refine DpSt.elim (C := fun a => Code.wp _ _ _ a wr) hI ?_
  clear hI a
  intro out rule word inn tgt col i vO u1 u2 u13 u14 u15 u16 u17 u18 u19 u20 u21 u22 u23 u24 u25 u26 u27 u28 u29 u30 u31 u32 u33 u34 u35 u36 u37 u38 u39 u40 u41 u42 u43 u44 u45 u46 u47 u48 u49 u50 u51 u52 u53 u54 u55 u56 u57 u58 u59 u60 u61 u62 u63 u64 u65 u66 u67 u68 u69 u70 u71 u72 u73 u74 u75 u76 u77 u78 u79 u80 u81 u82 u83 u84 u85 u86 u87 u88 u89 u90 u91 u92 u93 u94 u95 u96 u97 u98 u99 u100 u101 u102 u103 u104 u105 u106 u107 u108 u109 u110 u111 u112 u113 u114 u115 u116 u117 u118 u119 u120 u121 u122 u123 u124 u125 u126 u127 u128 u129 u130 u131 u132 u133 u134 u135 u136 u137 h hM
  cases n with
  | zero => exact absurd h (by simp [depfile_Parse.l0])
  | succ m =>
    replace hK := hK m (Nat.lt_succ_self m)
    rw [depfile_Parse.l0] at h
    by_cases hb : 0 ≤ i ∧ i ≤ 32770 ∧ out.length < 100000 ∧ rule.f1.length < 100000 ∧ word.size < 100000
    case neg => rw [if_neg hb] at h; cases h
    rw [if_pos hb] at h
    obtain ⟨b1, b2, b3, b4, b5⟩ := hb
    by_cases c1 : i ≤ (a0.size : Int)
    case neg =>
      rw [if_neg c1] at h
      exact dp_Z a0 out rule word inn tgt col i vO u1 u2 u13 u14 u15 u16 u17 u18 u19 u20 u21 u22 u23 u24 u25 u26 u27 u28 u29 u30 u31 u32 u33 u34 u35 u36 u37 u38 u39 u40 u41 u42 u43 u44 u45 u46 u47 u48 u49 u50 u51 u52 u53 u54 u55 u56 u57 u58 u59 u60 u61 u62 u63 u64 u65 u66 u67 u68 u69 u70 u71 u72 u73 u74 u75 u76 u77 u78 u79 u80 u81 u82 u83 u84 u85 u86 u87 u88 u89 u90 u91 u92 u93 u94 u95 u96 u97 u98 u99 u100 u101 u102 u103 u104 u105 u106 u107 u108 u109 u110 u111 u112 u113 u114 u115 u116 u117 u118 u119 u120 u121 u122 u123 u124 u125 u126 u127 u128 u129 u130 u131 u132 u133 u134 u135 u136 u137 r1 r2 r3 w wr K Q hM hexit c1 h
    rw [if_pos c1] at h
    have hx := bt_at a0 i
    by_cases c2 : i = (a0.size : Int) ∨ bt a0 i = 10
    case pos =>
      rw [if_pos c2] at h
      by_cases cE : i = (a0.size : Int)
      case pos =>
        by_cases ct : closeTgt inn tgt col = true
        case pos =>
          rw [if_pos ct] at h
          cases col with
          | false => rw [if_pos rfl] at h; exact dp_AEw a0 out rule word inn tgt i vO u1 u2 u13 u14 u15 u16 u17 u18 u19 u20 u21 u22 u23 u24 u25 u26 u27 u28 u29 u30 u31 u32 u33 u34 u35 u36 u37 u38 u39 u40 u41 u42 u43 u44 u45 u46 u47 u48 u49 u50 u51 u52 u53 u54 u55 u56 u57 u58 u59 u60 u61 u62 u63 u64 u65 u66 u67 u68 u69 u70 u71 u72 u73 u74 u75 u76 u77 u78 u79 u80 u81 u82 u83 u84 u85 u86 u87 u88 u89 u90 u91 u92 u93 u94 u95 u96 u97 u98 u99 u100 u101 u102 u103 u104 u105 u106 u107 u108 u109 u110 u111 u112 u113 u114 u115 u116 u117 u118 u119 u120 u121 u122 u123 u124 u125 u126 u127 u128 u129 u130 u131 u132 u133 u134 u135 u136 u137 m r1 r2 r3 w wr K Q hM b1 b2 b3 b4 b5 hK hret c1 (beq_iff_eq.mpr cE) ct h
          | true => rw [if_neg (by decide)] at h; exact dp_AEp a0 out rule word inn tgt i vO u1 u2 u13 u14 u15 u16 u17 u18 u19 u20 u21 u22 u23 u24 u25 u26 u27 u28 u29 u30 u31 u32 u33 u34 u35 u36 u37 u38 u39 u40 u41 u42 u43 u44 u45 u46 u47 u48 u49 u50 u51 u52 u53 u54 u55 u56 u57 u58 u59 u60 u61 u62 u63 u64 u65 u66 u67 u68 u69 u70 u71 u72 u73 u74 u75 u76 u77 u78 u79 u80 u81 u82 u83 u84 u85 u86 u87 u88 u89 u90 u91 u92 u93 u94 u95 u96 u97 u98 u99 u100 u101 u102 u103 u104 u105 u106 u107 u108 u109 u110 u111 u112 u113 u114 u115 u116 u117 u118 u119 u120 u121 u122 u123 u124 u125 u126 u127 u128 u129 u130 u131 u132 u133 u134 u135 u136 u137 m r1 r2 r3 w wr K Q hM b1 b2 b3 b4 b5 hK hret c1 (beq_iff_eq.mpr cE) ct h
        rw [if_neg ct] at h
        exact dp_AEn a0 out rule word inn tgt col i vO u1 u2 u13 u14 u15 u16 u17 u18 u19 u20 u21 u22 u23 u24 u25 u26 u27 u28 u29 u30 u31 u32 u33 u34 u35 u36 u37 u38 u39 u40 u41 u42 u43 u44 u45 u46 u47 u48 u49 u50 u51 u52 u53 u54 u55 u56 u57 u58 u59 u60 u61 u62 u63 u64 u65 u66 u67 u68 u69 u70 u71 u72 u73 u74 u75 u76 u77 u78 u79 u80 u81 u82 u83 u84 u85 u86 u87 u88 u89 u90 u91 u92 u93 u94 u95 u96 u97 u98 u99 u100 u101 u102 u103 u104 u105 u106 u107 u108 u109 u110 u111 u112 u113 u114 u115 u116 u117 u118 u119 u120 u121 u122 u123 u124 u125 u126 u127 u128 u129 u130 u131 u132 u133 u134 u135 u136 u137 m r1 r2 r3 w wr K Q hM b1 b2 b3 b4 b5 hK hret c1 (beq_iff_eq.mpr cE) (Bool.eq_false_iff.mpr ct) h
      have cN := c2.resolve_left cE
      by_cases ct : closeTgt inn tgt col = true
      case pos =>
        rw [if_pos ct] at h
        cases col with
        | false => rw [if_pos rfl] at h; exact dp_ANw a0 out rule word inn tgt i vO u1 u2 u13 u14 u15 u16 u17 u18 u19 u20 u21 u22 u23 u24 u25 u26 u27 u28 u29 u30 u31 u32 u33 u34 u35 u36 u37 u38 u39 u40 u41 u42 u43 u44 u45 u46 u47 u48 u49 u50 u51 u52 u53 u54 u55 u56 u57 u58 u59 u60 u61 u62 u63 u64 u65 u66 u67 u68 u69 u70 u71 u72 u73 u74 u75 u76 u77 u78 u79 u80 u81 u82 u83 u84 u85 u86 u87 u88 u89 u90 u91 u92 u93 u94 u95 u96 u97 u98 u99 u100 u101 u102 u103 u104 u105 u106 u107 u108 u109 u110 u111 u112 u113 u114 u115 u116 u117 u118 u119 u120 u121 u122 u123 u124 u125 u126 u127 u128 u129 u130 u131 u132 u133 u134 u135 u136 u137 m r1 r2 r3 w wr K Q hM b1 b2 b3 b4 b5 hK hret c1 (by omega) (beq_eq_false_iff_ne.mpr cE) (beq_iff_eq.mpr cN) hx ct h
        | true => rw [if_neg (by decide)] at h; exact dp_ANp a0 out rule word inn tgt i vO u1 u2 u13 u14 u15 u16 u17 u18 u19 u20 u21 u22 u23 u24 u25 u26 u27 u28 u29 u30 u31 u32 u33 u34 u35 u36 u37 u38 u39 u40 u41 u42 u43 u44 u45 u46 u47 u48 u49 u50 u51 u52 u53 u54 u55 u56 u57 u58 u59 u60 u61 u62 u63 u64 u65 u66 u67 u68 u69 u70 u71 u72 u73 u74 u75 u76 u77 u78 u79 u80 u81 u82 u83 u84 u85 u86 u87 u88 u89 u90 u91 u92 u93 u94 u95 u96 u97 u98 u99 u100 u101 u102 u103 u104 u105 u106 u107 u108 u109 u110 u111 u112 u113 u114 u115 u116 u117 u118 u119 u120 u121 u122 u123 u124 u125 u126 u127 u128 u129 u130 u131 u132 u133 u134 u135 u136 u137 m r1 r2 r3 w wr K Q hM b1 b2 b3 b4 b5 hK hret c1 (by omega) (beq_eq_false_iff_ne.mpr cE) (beq_iff_eq.mpr cN) hx ct h
      rw [if_neg ct] at h
      exact dp_ANn a0 out rule word inn tgt col i vO u1 u2 u13 u14 u15 u16 u17 u18 u19 u20 u21 u22 u23 u24 u25 u26 u27 u28 u29 u30 u31 u32 u33 u34 u35 u36 u37 u38 u39 u40 u41 u42 u43 u44 u45 u46 u47 u48 u49 u50 u51 u52 u53 u54 u55 u56 u57 u58 u59 u60 u61 u62 u63 u64 u65 u66 u67 u68 u69 u70 u71 u72 u73 u74 u75 u76 u77 u78 u79 u80 u81 u82 u83 u84 u85 u86 u87 u88 u89 u90 u91 u92 u93 u94 u95 u96 u97 u98 u99 u100 u101 u102 u103 u104 u105 u106 u107 u108 u109 u110 u111 u112 u113 u114 u115 u116 u117 u118 u119 u120 u121 u122 u123 u124 u125 u126 u127 u128 u129 u130 u131 u132 u133 u134 u135 u136 u137 m r1 r2 r3 w wr K Q hM b1 b2 b3 b4 b5 hK hret c1 (by omega) (beq_eq_false_iff_ne.mpr cE) (beq_iff_eq.mpr cN) hx (Bool.eq_false_iff.mpr ct) h
    rw [if_neg c2] at h
    have g3 : i < (a0.size : Int) := by have := fun e => c2 (.inl e); omega
    have g2 : (i == (a0.size : Int)) = false := beq_eq_false_iff_ne.mpr (fun e => c2 (.inl e))
    have g1 : (bt a0 i == 10) = false := beq_eq_false_iff_ne.mpr (fun e => c2 (.inr e))
    by_cases c4 : bt a0 i < 32
    case pos => rw [if_pos c4] at h; exact dp_B a0 out rule word inn tgt col i vO u1 u2 u13 u14 u15 u16 u17 u18 u19 u20 u21 u22 u23 u24 u25 u26 u27 u28 u29 u30 u31 u32 u33 u34 u35 u36 u37 u38 u39 u40 u41 u42 u43 u44 u45 u46 u47 u48 u49 u50 u51 u52 u53 u54 u55 u56 u57 u58 u59 u60 u61 u62 u63 u64 u65 u66 u67 u68 u69 u70 u71 u72 u73 u74 u75 u76 u77 u78 u79 u80 u81 u82 u83 u84 u85 u86 u87 u88 u89 u90 u91 u92 u93 u94 u95 u96 u97 u98 u99 u100 u101 u102 u103 u104 u105 u106 u107 u108 u109 u110 u111 u112 u113 u114 u115 u116 u117 u118 u119 u120 u121 u122 u123 u124 u125 u126 u127 u128 u129 u130 u131 u132 u133 u134 u135 u136 u137 m r1 r2 r3 w wr K Q hM b1 b2 b3 b4 b5 hK hret c1 g3 g2 g1 hx (decide_eq_true c4) h
    rw [if_neg c4] at h
    have g4 : decide (bt a0 i < 32) = false := decide_eq_false c4
    by_cases c5 : bt a0 i = 32
    case pos => rw [if_pos c5] at h; exact dp_C a0 out rule word inn tgt col i vO u1 u2 u13 u14 u15 u16 u17 u18 u19 u20 u21 u22 u23 u24 u25 u26 u27 u28 u29 u30 u31 u32 u33 u34 u35 u36 u37 u38 u39 u40 u41 u42 u43 u44 u45 u46 u47 u48 u49 u50 u51 u52 u53 u54 u55 u56 u57 u58 u59 u60 u61 u62 u63 u64 u65 u66 u67 u68 u69 u70 u71 u72 u73 u74 u75 u76 u77 u78 u79 u80 u81 u82 u83 u84 u85 u86 u87 u88 u89 u90 u91 u92 u93 u94 u95 u96 u97 u98 u99 u100 u101 u102 u103 u104 u105 u106 u107 u108 u109 u110 u111 u112 u113 u114 u115 u116 u117 u118 u119 u120 u121 u122 u123 u124 u125 u126 u127 u128 u129 u130 u131 u132 u133 u134 u135 u136 u137 m r1 r2 r3 w wr K Q hM b1 b2 b3 b4 b5 hK hret c1 g3 g2 g1 hx g4 (beq_iff_eq.mpr c5) h
    rw [if_neg c5] at h
    have g5 : (bt a0 i == 32) = false := beq_eq_false_iff_ne.mpr c5
    by_cases c6 : bt a0 i = 58
    case pos =>
      rw [if_pos c6] at h
      by_cases ct : closeTgt inn tgt col = true
      case neg =>
        rw [if_pos (.inl (Bool.eq_false_iff.mpr ct))] at h
        exact dp_Dn a0 out rule word inn tgt col i vO u1 u2 u13 u14 u15 u16 u17 u18 u19 u20 u21 u22 u23 u24 u25 u26 u27 u28 u29 u30 u31 u32 u33 u34 u35 u36 u37 u38 u39 u40 u41 u42 u43 u44 u45 u46 u47 u48 u49 u50 u51 u52 u53 u54 u55 u56 u57 u58 u59 u60 u61 u62 u63 u64 u65 u66 u67 u68 u69 u70 u71 u72 u73 u74 u75 u76 u77 u78 u79 u80 u81 u82 u83 u84 u85 u86 u87 u88 u89 u90 u91 u92 u93 u94 u95 u96 u97 u98 u99 u100 u101 u102 u103 u104 u105 u106 u107 u108 u109 u110 u111 u112 u113 u114 u115 u116 u117 u118 u119 u120 u121 u122 u123 u124 u125 u126 u127 u128 u129 u130 u131 u132 u133 u134 u135 u136 u137 m r1 r2 r3 w wr K Q hM b1 b2 b3 b4 b5 hK hret c1 g3 g2 g1 hx g4 g5 (beq_iff_eq.mpr c6) (Bool.eq_false_iff.mpr ct) h
      cases col with
      | true => rw [if_pos (.inr rfl)] at h; exact dp_Dc a0 out rule word inn tgt i vO u1 u2 u13 u14 u15 u16 u17 u18 u19 u20 u21 u22 u23 u24 u25 u26 u27 u28 u29 u30 u31 u32 u33 u34 u35 u36 u37 u38 u39 u40 u41 u42 u43 u44 u45 u46 u47 u48 u49 u50 u51 u52 u53 u54 u55 u56 u57 u58 u59 u60 u61 u62 u63 u64 u65 u66 u67 u68 u69 u70 u71 u72 u73 u74 u75 u76 u77 u78 u79 u80 u81 u82 u83 u84 u85 u86 u87 u88 u89 u90 u91 u92 u93 u94 u95 u96 u97 u98 u99 u100 u101 u102 u103 u104 u105 u106 u107 u108 u109 u110 u111 u112 u113 u114 u115 u116 u117 u118 u119 u120 u121 u122 u123 u124 u125 u126 u127 u128 u129 u130 u131 u132 u133 u134 u135 u136 u137 m r1 r2 r3 w wr K Q hM b1 b2 b3 b4 b5 hK hret c1 g3 g2 g1 hx g4 g5 (beq_iff_eq.mpr c6) ct h
      | false => rw [if_neg (fun e => by rcases e with e | e; rw [ct] at e; cases e; cases e), ct] at h; exact dp_D a0 out rule word inn tgt i vO u1 u2 u13 u14 u15 u16 u17 u18 u19 u20 u21 u22 u23 u24 u25 u26 u27 u28 u29 u30 u31 u32 u33 u34 u35 u36 u37 u38 u39 u40 u41 u42 u43 u44 u45 u46 u47 u48 u49 u50 u51 u52 u53 u54 u55 u56 u57 u58 u59 u60 u61 u62 u63 u64 u65 u66 u67 u68 u69 u70 u71 u72 u73 u74 u75 u76 u77 u78 u79 u80 u81 u82 u83 u84 u85 u86 u87 u88 u89 u90 u91 u92 u93 u94 u95 u96 u97 u98 u99 u100 u101 u102 u103 u104 u105 u106 u107 u108 u109 u110 u111 u112 u113 u114 u115 u116 u117 u118 u119 u120 u121 u122 u123 u124 u125 u126 u127 u128 u129 u130 u131 u132 u133 u134 u135 u136 u137 m r1 r2 r3 w wr K Q hM b1 b2 b3 b4 b5 hK hret c1 g3 g2 g1 hx g4 g5 (beq_iff_eq.mpr c6) ct h
    rw [if_neg c6] at h
    have g6 : (bt a0 i == 58) = false := beq_eq_false_iff_ne.mpr c6
    by_cases c7 : bt a0 i = 92
    case pos =>
      rw [if_pos c7] at h
      have g7 : (bt a0 i == 92) = true := beq_iff_eq.mpr c7
      have hy := bt_at a0 (i + 1)
      by_cases cE : i + 1 = (a0.size : Int)
      case pos => rw [if_pos (.inl cE)] at h; exact dp_Ee a0 out rule word inn tgt col i vO u1 u2 u13 u14 u15 u16 u17 u18 u19 u20 u21 u22 u23 u24 u25 u26 u27 u28 u29 u30 u31 u32 u33 u34 u35 u36 u37 u38 u39 u40 u41 u42 u43 u44 u45 u46 u47 u48 u49 u50 u51 u52 u53 u54 u55 u56 u57 u58 u59 u60 u61 u62 u63 u64 u65 u66 u67 u68 u69 u70 u71 u72 u73 u74 u75 u76 u77 u78 u79 u80 u81 u82 u83 u84 u85 u86 u87 u88 u89 u90 u91 u92 u93 u94 u95 u96 u97 u98 u99 u100 u101 u102 u103 u104 u105 u106 u107 u108 u109 u110 u111 u112 u113 u114 u115 u116 u117 u118 u119 u120 u121 u122 u123 u124 u125 u126 u127 u128 u129 u130 u131 u132 u133 u134 u135 u136 u137 m r1 r2 r3 w wr K Q hM b1 b2 b3 b4 b5 hK hret c1 g3 g2 g1 hx g4 g5 g6 g7 (beq_iff_eq.mpr cE) h
      have g8 : (i + 1 == (a0.size : Int)) = false := beq_eq_false_iff_ne.mpr cE
      have g9 : i + 1 < (a0.size : Int) := by omega
      by_cases cI : escI (bt a0 (i + 1)) = false
      case pos => rw [if_pos (.inr cI)] at h; exact dp_Ei a0 out rule word inn tgt col i vO u1 u2 u13 u14 u15 u16 u17 u18 u19 u20 u21 u22 u23 u24 u25 u26 u27 u28 u29 u30 u31 u32 u33 u34 u35 u36 u37 u38 u39 u40 u41 u42 u43 u44 u45 u46 u47 u48 u49 u50 u51 u52 u53 u54 u55 u56 u57 u58 u59 u60 u61 u62 u63 u64 u65 u66 u67 u68 u69 u70 u71 u72 u73 u74 u75 u76 u77 u78 u79 u80 u81 u82 u83 u84 u85 u86 u87 u88 u89 u90 u91 u92 u93 u94 u95 u96 u97 u98 u99 u100 u101 u102 u103 u104 u105 u106 u107 u108 u109 u110 u111 u112 u113 u114 u115 u116 u117 u118 u119 u120 u121 u122 u123 u124 u125 u126 u127 u128 u129 u130 u131 u132 u133 u134 u135 u136 u137 m r1 r2 r3 w wr K Q hM b1 b2 b3 b4 b5 hK hret c1 g3 g2 g1 hx g4 g5 g6 g7 g9 g8 hy cI h
      rw [if_neg (fun e => e.elim cE cI)] at h
      have g10 : escI (bt a0 (i + 1)) = true := by rcases Bool.eq_false_or_eq_true (escI (bt a0 (i + 1))) with e | e; exact e; exact absurd e cI
      by_cases c12 : bt a0 (i + 1) = 10
      case pos => rw [if_pos c12] at h; exact dp_En a0 out rule word inn tgt col i vO u1 u2 u13 u14 u15 u16 u17 u18 u19 u20 u21 u22 u23 u24 u25 u26 u27 u28 u29 u30 u31 u32 u33 u34 u35 u36 u37 u38 u39 u40 u41 u42 u43 u44 u45 u46 u47 u48 u49 u50 u51 u52 u53 u54 u55 u56 u57 u58 u59 u60 u61 u62 u63 u64 u65 u66 u67 u68 u69 u70 u71 u72 u73 u74 u75 u76 u77 u78 u79 u80 u81 u82 u83 u84 u85 u86 u87 u88 u89 u90 u91 u92 u93 u94 u95 u96 u97 u98 u99 u100 u101 u102 u103 u104 u105 u106 u107 u108 u109 u110 u111 u112 u113 u114 u115 u116 u117 u118 u119 u120 u121 u122 u123 u124 u125 u126 u127 u128 u129 u130 u131 u132 u133 u134 u135 u136 u137 m r1 r2 r3 w wr K Q hM b1 b2 b3 b4 b5 hK hret c1 g3 g2 g1 hx g4 g5 g6 g7 g9 g8 hy g10 (beq_iff_eq.mpr c12) h
      rw [if_neg c12] at h
      have g12 : (bt a0 (i + 1) == 10) = false := beq_eq_false_iff_ne.mpr c12
      cases inn with
      | true => rw [if_neg (fun e => by cases e.1)] at h; exact dp_Gi a0 out rule word true tgt col i vO u1 u2 u13 u14 u15 u16 u17 u18 u19 u20 u21 u22 u23 u24 u25 u26 u27 u28 u29 u30 u31 u32 u33 u34 u35 u36 u37 u38 u39 u40 u41 u42 u43 u44 u45 u46 u47 u48 u49 u50 u51 u52 u53 u54 u55 u56 u57 u58 u59 u60 u61 u62 u63 u64 u65 u66 u67 u68 u69 u70 u71 u72 u73 u74 u75 u76 u77 u78 u79 u80 u81 u82 u83 u84 u85 u86 u87 u88 u89 u90 u91 u92 u93 u94 u95 u96 u97 u98 u99 u100 u101 u102 u103 u104 u105 u106 u107 u108 u109 u110 u111 u112 u113 u114 u115 u116 u117 u118 u119 u120 u121 u122 u123 u124 u125 u126 u127 u128 u129 u130 u131 u132 u133 u134 u135 u136 u137 m r1 r2 r3 w wr K Q hM b1 b2 b3 b4 b5 hK hret c1 g3 g2 g1 hx g4 g5 g6 g7 g9 g8 hy g10 g12 rfl h
      | false => cases tgt with
        | false => rw [if_neg (fun e => by cases e.2.1)] at h; exact dp_Gt a0 out rule word false false col i vO u1 u2 u13 u14 u15 u16 u17 u18 u19 u20 u21 u22 u23 u24 u25 u26 u27 u28 u29 u30 u31 u32 u33 u34 u35 u36 u37 u38 u39 u40 u41 u42 u43 u44 u45 u46 u47 u48 u49 u50 u51 u52 u53 u54 u55 u56 u57 u58 u59 u60 u61 u62 u63 u64 u65 u66 u67 u68 u69 u70 u71 u72 u73 u74 u75 u76 u77 u78 u79 u80 u81 u82 u83 u84 u85 u86 u87 u88 u89 u90 u91 u92 u93 u94 u95 u96 u97 u98 u99 u100 u101 u102 u103 u104 u105 u106 u107 u108 u109 u110 u111 u112 u113 u114 u115 u116 u117 u118 u119 u120 u121 u122 u123 u124 u125 u126 u127 u128 u129 u130 u131 u132 u133 u134 u135 u136 u137 m r1 r2 r3 w wr K Q hM b1 b2 b3 b4 b5 hK hret c1 g3 g2 g1 hx g4 g5 g6 g7 g9 g8 hy g10 g12 rfl rfl h
        | true => cases col with
          | false => rw [if_pos ⟨rfl, rfl, rfl⟩] at h; exact dp_Gw a0 out rule word false true i vO u1 u2 u13 u14 u15 u16 u17 u18 u19 u20 u21 u22 u23 u24 u25 u26 u27 u28 u29 u30 u31 u32 u33 u34 u35 u36 u37 u38 u39 u40 u41 u42 u43 u44 u45 u46 u47 u48 u49 u50 u51 u52 u53 u54 u55 u56 u57 u58 u59 u60 u61 u62 u63 u64 u65 u66 u67 u68 u69 u70 u71 u72 u73 u74 u75 u76 u77 u78 u79 u80 u81 u82 u83 u84 u85 u86 u87 u88 u89 u90 u91 u92 u93 u94 u95 u96 u97 u98 u99 u100 u101 u102 u103 u104 u105 u106 u107 u108 u109 u110 u111 u112 u113 u114 u115 u116 u117 u118 u119 u120 u121 u122 u123 u124 u125 u126 u127 u128 u129 u130 u131 u132 u133 u134 u135 u136 u137 m r1 r2 r3 w wr K Q hM b1 b2 b3 b4 b5 hK hret c1 g3 g2 g1 hx g4 g5 g6 g7 g9 g8 hy g10 g12 rfl rfl h
          | true => rw [if_neg (fun e => by cases e.2.2)] at h; exact dp_Gc a0 out rule word false true i vO u1 u2 u13 u14 u15 u16 u17 u18 u19 u20 u21 u22 u23 u24 u25 u26 u27 u28 u29 u30 u31 u32 u33 u34 u35 u36 u37 u38 u39 u40 u41 u42 u43 u44 u45 u46 u47 u48 u49 u50 u51 u52 u53 u54 u55 u56 u57 u58 u59 u60 u61 u62 u63 u64 u65 u66 u67 u68 u69 u70 u71 u72 u73 u74 u75 u76 u77 u78 u79 u80 u81 u82 u83 u84 u85 u86 u87 u88 u89 u90 u91 u92 u93 u94 u95 u96 u97 u98 u99 u100 u101 u102 u103 u104 u105 u106 u107 u108 u109 u110 u111 u112 u113 u114 u115 u116 u117 u118 u119 u120 u121 u122 u123 u124 u125 u126 u127 u128 u129 u130 u131 u132 u133 u134 u135 u136 u137 m r1 r2 r3 w wr K Q hM b1 b2 b3 b4 b5 hK hret c1 g3 g2 g1 hx g4 g5 g6 g7 g9 g8 hy g10 g12 rfl rfl h
    rw [if_neg c7] at h
    have g7 : (bt a0 i == 92) = false := beq_eq_false_iff_ne.mpr c7
    cases inn with
    | true => rw [if_neg (fun e => by cases e.1)] at h; exact dp_Fi a0 out rule word true tgt col i vO u1 u2 u13 u14 u15 u16 u17 u18 u19 u20 u21 u22 u23 u24 u25 u26 u27 u28 u29 u30 u31 u32 u33 u34 u35 u36 u37 u38 u39 u40 u41 u42 u43 u44 u45 u46 u47 u48 u49 u50 u51 u52 u53 u54 u55 u56 u57 u58 u59 u60 u61 u62 u63 u64 u65 u66 u67 u68 u69 u70 u71 u72 u73 u74 u75 u76 u77 u78 u79 u80 u81 u82 u83 u84 u85 u86 u87 u88 u89 u90 u91 u92 u93 u94 u95 u96 u97 u98 u99 u100 u101 u102 u103 u104 u105 u106 u107 u108 u109 u110 u111 u112 u113 u114 u115 u116 u117 u118 u119 u120 u121 u122 u123 u124 u125 u126 u127 u128 u129 u130 u131 u132 u133 u134 u135 u136 u137 m r1 r2 r3 w wr K Q hM b1 b2 b3 b4 b5 hK hret c1 g3 g2 g1 hx g4 g5 g6 g7 rfl h
    | false => cases tgt with
      | false => rw [if_neg (fun e => by cases e.2.1)] at h; exact dp_Ft a0 out rule word false false col i vO u1 u2 u13 u14 u15 u16 u17 u18 u19 u20 u21 u22 u23 u24 u25 u26 u27 u28 u29 u30 u31 u32 u33 u34 u35 u36 u37 u38 u39 u40 u41 u42 u43 u44 u45 u46 u47 u48 u49 u50 u51 u52 u53 u54 u55 u56 u57 u58 u59 u60 u61 u62 u63 u64 u65 u66 u67 u68 u69 u70 u71 u72 u73 u74 u75 u76 u77 u78 u79 u80 u81 u82 u83 u84 u85 u86 u87 u88 u89 u90 u91 u92 u93 u94 u95 u96 u97 u98 u99 u100 u101 u102 u103 u104 u105 u106 u107 u108 u109 u110 u111 u112 u113 u114 u115 u116 u117 u118 u119 u120 u121 u122 u123 u124 u125 u126 u127 u128 u129 u130 u131 u132 u133 u134 u135 u136 u137 m r1 r2 r3 w wr K Q hM b1 b2 b3 b4 b5 hK hret c1 g3 g2 g1 hx g4 g5 g6 g7 rfl rfl h
      | true => cases col with
        | false => rw [if_pos ⟨rfl, rfl, rfl⟩] at h; exact dp_Fw a0 out rule word false true i vO u1 u2 u13 u14 u15 u16 u17 u18 u19 u20 u21 u22 u23 u24 u25 u26 u27 u28 u29 u30 u31 u32 u33 u34 u35 u36 u37 u38 u39 u40 u41 u42 u43 u44 u45 u46 u47 u48 u49 u50 u51 u52 u53 u54 u55 u56 u57 u58 u59 u60 u61 u62 u63 u64 u65 u66 u67 u68 u69 u70 u71 u72 u73 u74 u75 u76 u77 u78 u79 u80 u81 u82 u83 u84 u85 u86 u87 u88 u89 u90 u91 u92 u93 u94 u95 u96 u97 u98 u99 u100 u101 u102 u103 u104 u105 u106 u107 u108 u109 u110 u111 u112 u113 u114 u115 u116 u117 u118 u119 u120 u121 u122 u123 u124 u125 u126 u127 u128 u129 u130 u131 u132 u133 u134 u135 u136 u137 m r1 r2 r3 w wr K Q hM b1 b2 b3 b4 b5 hK hret c1 g3 g2 g1 hx g4 g5 g6 g7 rfl rfl h
        | true => rw [if_neg (fun e => by cases e.2.2)] at h; exact dp_Fc a0 out rule word false true i vO u1 u2 u13 u14 u15 u16 u17 u18 u19 u20 u21 u22 u23 u24 u25 u26 u27 u28 u29 u30 u31 u32 u33 u34 u35 u36 u37 u38 u39 u40 u41 u42 u43 u44 u45 u46 u47 u48 u49 u50 u51 u52 u53 u54 u55 u56 u57 u58 u59 u60 u61 u62 u63 u64 u65 u66 u67 u68 u69 u70 u71 u72 u73 u74 u75 u76 u77 u78 u79 u80 u81 u82 u83 u84 u85 u86 u87 u88 u89 u90 u91 u92 u93 u94 u95 u96 u97 u98 u99 u100 u101 u102 u103 u104 u105 u106 u107 u108 u109 u110 u111 u112 u113 u114 u115 u116 u117 u118 u119 u120 u121 u122 u123 u124 u125 u126 u127 u128 u129 u130 u131 u132 u133 u134 u135 u136 u137 m r1 r2 r3 w wr K Q hM b1 b2 b3 b4 b5 hK hret c1 g3 g2 g1 hx g4 g5 g6 g7 rfl rfl h
end Go.Proofs.Ytahdgaaedilcmaa.P
