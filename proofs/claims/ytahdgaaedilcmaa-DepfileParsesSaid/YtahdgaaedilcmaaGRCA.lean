/- brickyardref16.Parse: cases of a round. -/
import Derived.Test.YtahdgaaedilcmaaGRA
namespace Go.Proofs.Ytahdgaaedilcmaa.P
open Go.RowKit Go.Proofs.YtahdgaaedilcmaaW.PrintWords Go.Proofs.YtahdgaaedilcmaaW.PrintLast Go.Proofs.YtahdgaaedilcmaaW.PrintMore
set_option linter.unusedVariables false
set_option linter.unusedSimpArgs false
set_option maxHeartbeats 4000000 in
set_option maxRecDepth 1000000 in
theorem rp_K1 (a0 : ByteArray) (l : List S61) (bad : Int) (out : List S32) (words : List ByteArray) (mark : Bool) (i : Int) (vL vO vW u1 u2 u10 u11 u12 u13 u14 u15 u16 u17 u18 u19 u20 u21 u22 u23 u24 u25 u26 u27 u28 u29 u30 u31 u32 u33 u34 u35 u36 u37 u38 u39 u40 u41 u42 u43 u44 u45 u46 u47 u48 u49 u50 u51 u52 u53 u54 u55 u56 u57 u58 u59 u60 u61 u62 u63 u64 u65 u66 u67 u68 u69 u70 u71 u72 u73 u74 u75 u76 u77 u78 u79 u80 u81 u82 u83 u84 u85 u86 u87 u88 u89 u90 u91 u92 u93 u94 u95 u96 u97 u98 u99 u100 u101 u102 u103 u104 u105 u106 u107 u108 u109 u110 u111 u112 u113 u114 u115 u116 u117 u118 u119 u120 u121 u122 u123 u124 u125 u126 u127 u128 u129 : Value) (m : Nat) (r1 : List S32) (r2 r3 : Int) (w wr : World) (K : Act → World → Prop) (Q : Exit → Act → World → Prop)
    (hM : QMem w w.heap.size vL l vO out vW words wr) (b1 : 0 ≤ i) (b2 : i ≤ 100000) (b3 : out.length < 100000) (b4 : words.length < 100000)
    (hK : ∀ a' w', RpSt a0 w l bad r1 r2 r3 m a' w' → K a' w') (hret : ∀ a' w', bodyPost Try.prog Try.f13 (RPost r1 r2 r3 w) .ret a' w' → Q .ret a' w')
    (c1 : i < (l.length : Int)) (k2 : ((rd_T61 l i).f0 == 2) = false) (k3 : ((rd_T61 l i).f0 == 3) = false) (k4 : ((rd_T61 l i).f0 == 4) = false)
    (h : ref16_Parse.l0 m l bad out words mark (i + 1) = some (r1, r2, r3)) :
    Code.wp Try.prog rpBody (Exit.then K Q) { tmps := #[.string a0, u1, u2, .pointer (some ⟨w.heap.size, 0, none⟩), vL, .int .i64 bad, vO, vW, .bool mark, .int .i64 i, u10, u11, u12, u13, u14, u15, u16, u17, u18, u19, u20, u21, u22, u23, u24, u25, u26, u27, u28, u29, u30, u31, u32, u33, u34, u35, u36, u37, u38, u39, u40, u41, u42, u43, u44, u45, u46, u47, u48, u49, u50, u51, u52, u53, u54, u55, u56, u57, u58, u59, u60, u61, u62, u63, u64, u65, u66, u67, u68, u69, u70, u71, u72, u73, u74, u75, u76, u77, u78, u79, u80, u81, u82, u83, u84, u85, u86, u87, u88, u89, u90, u91, u92, u93, u94, u95, u96, u97, u98, u99, u100, u101, u102, u103, u104, u105, u106, u107, u108, u109, u110, u111, u112, u113, u114, u115, u116, u117, u118, u119, u120, u121, u122, u123, u124, u125, u126, u127, u128, u129], defers := [] } wr := by
  obtain ⟨k0, k0b, f0, f0b, ⟨AL, cL, rfl, hcL, hL⟩, ⟨AO, cO, rfl⟩, ⟨AW, cW, rfl, hcW, hW⟩⟩ := hM.cells
  have c1b : decide (i < (l.length : Int)) = true := decide_eq_true c1
  obtain ⟨ad, hA, hx0, hx1, hx2⟩ := at_T61 hL i b1 c1
  subst hA
  have H' := Aside0.mk h
  clear h hret
  conv => arg 2; whnf
  go_wp2
  all_goals exact RpSt.mk' _ _ _ _ _ _ _ _ _ _ _ _ _ _ _ _ _ _ _ _ _ _ _ _ _ _ _ _ _ _ _ _ _ _ _ _ _ _ _ _ _ _ _ _ _ _ _ _ _ _ _ _ _ _ _ _ _ _ _ _ _ _ _ _ _ _ _ _ _ _ _ _ _ _ _ _ _ _ _ _ _ _ _ _ _ _ _ _ _ _ _ _ _ _ _ _ _ _ _ _ _ _ _ _ _ _ _ _ _ _ _ _ _ _ _ _ _ _ _ _ _ _ _ _ _ _ _ _ _ H'.out hM
set_option maxHeartbeats 4000000 in
set_option maxRecDepth 1000000 in
theorem rp_2n (a0 : ByteArray) (l : List S61) (bad : Int) (out : List S32) (words : List ByteArray) (i : Int) (vL vO vW u1 u2 u10 u11 u12 u13 u14 u15 u16 u17 u18 u19 u20 u21 u22 u23 u24 u25 u26 u27 u28 u29 u30 u31 u32 u33 u34 u35 u36 u37 u38 u39 u40 u41 u42 u43 u44 u45 u46 u47 u48 u49 u50 u51 u52 u53 u54 u55 u56 u57 u58 u59 u60 u61 u62 u63 u64 u65 u66 u67 u68 u69 u70 u71 u72 u73 u74 u75 u76 u77 u78 u79 u80 u81 u82 u83 u84 u85 u86 u87 u88 u89 u90 u91 u92 u93 u94 u95 u96 u97 u98 u99 u100 u101 u102 u103 u104 u105 u106 u107 u108 u109 u110 u111 u112 u113 u114 u115 u116 u117 u118 u119 u120 u121 u122 u123 u124 u125 u126 u127 u128 u129 : Value) (m : Nat) (r1 : List S32) (r2 r3 : Int) (w wr : World) (K : Act → World → Prop) (Q : Exit → Act → World → Prop)
    (hM : QMem w w.heap.size vL l vO out vW words wr) (b1 : 0 ≤ i) (b2 : i ≤ 100000) (b3 : out.length < 100000) (b4 : words.length < 100000)
    (hK : ∀ a' w', RpSt a0 w l bad r1 r2 r3 m a' w' → K a' w') (hret : ∀ a' w', bodyPost Try.prog Try.f13 (RPost r1 r2 r3 w) .ret a' w' → Q .ret a' w')
    (c1 : i < (l.length : Int)) (k2 : ((rd_T61 l i).f0 == 2) = true) (d0 : ((words.length : Int) == 0) = false)
    (h : ref16_Parse.l0 m l bad out words true (i + 1) = some (r1, r2, r3)) :
    Code.wp Try.prog rpBody (Exit.then K Q) { tmps := #[.string a0, u1, u2, .pointer (some ⟨w.heap.size, 0, none⟩), vL, .int .i64 bad, vO, vW, .bool false, .int .i64 i, u10, u11, u12, u13, u14, u15, u16, u17, u18, u19, u20, u21, u22, u23, u24, u25, u26, u27, u28, u29, u30, u31, u32, u33, u34, u35, u36, u37, u38, u39, u40, u41, u42, u43, u44, u45, u46, u47, u48, u49, u50, u51, u52, u53, u54, u55, u56, u57, u58, u59, u60, u61, u62, u63, u64, u65, u66, u67, u68, u69, u70, u71, u72, u73, u74, u75, u76, u77, u78, u79, u80, u81, u82, u83, u84, u85, u86, u87, u88, u89, u90, u91, u92, u93, u94, u95, u96, u97, u98, u99, u100, u101, u102, u103, u104, u105, u106, u107, u108, u109, u110, u111, u112, u113, u114, u115, u116, u117, u118, u119, u120, u121, u122, u123, u124, u125, u126, u127, u128, u129], defers := [] } wr := by
  obtain ⟨k0, k0b, f0, f0b, ⟨AL, cL, rfl, hcL, hL⟩, ⟨AO, cO, rfl⟩, ⟨AW, cW, rfl, hcW, hW⟩⟩ := hM.cells
  have c1b : decide (i < (l.length : Int)) = true := decide_eq_true c1
  obtain ⟨ad, hA, hx0, hx1, hx2⟩ := at_T61 hL i b1 c1
  subst hA
  have H' := Aside0.mk h
  clear h hret
  conv => arg 2; whnf
  go_wp2
  all_goals exact RpSt.mk' _ _ _ _ _ _ _ _ _ _ _ _ _ _ _ _ _ _ _ _ _ _ _ _ _ _ _ _ _ _ _ _ _ _ _ _ _ _ _ _ _ _ _ _ _ _ _ _ _ _ _ _ _ _ _ _ _ _ _ _ _ _ _ _ _ _ _ _ _ _ _ _ _ _ _ _ _ _ _ _ _ _ _ _ _ _ _ _ _ _ _ _ _ _ _ _ _ _ _ _ _ _ _ _ _ _ _ _ _ _ _ _ _ _ _ _ _ _ _ _ _ _ _ _ _ _ _ _ _ H'.out hM
set_option maxHeartbeats 4000000 in
set_option maxRecDepth 1000000 in
theorem rp_3n (a0 : ByteArray) (l : List S61) (bad : Int) (out : List S32) (words : List ByteArray) (mark : Bool) (i : Int) (vL vO vW u1 u2 u10 u11 u12 u13 u14 u15 u16 u17 u18 u19 u20 u21 u22 u23 u24 u25 u26 u27 u28 u29 u30 u31 u32 u33 u34 u35 u36 u37 u38 u39 u40 u41 u42 u43 u44 u45 u46 u47 u48 u49 u50 u51 u52 u53 u54 u55 u56 u57 u58 u59 u60 u61 u62 u63 u64 u65 u66 u67 u68 u69 u70 u71 u72 u73 u74 u75 u76 u77 u78 u79 u80 u81 u82 u83 u84 u85 u86 u87 u88 u89 u90 u91 u92 u93 u94 u95 u96 u97 u98 u99 u100 u101 u102 u103 u104 u105 u106 u107 u108 u109 u110 u111 u112 u113 u114 u115 u116 u117 u118 u119 u120 u121 u122 u123 u124 u125 u126 u127 u128 u129 : Value) (m : Nat) (r1 : List S32) (r2 r3 : Int) (w wr : World) (K : Act → World → Prop) (Q : Exit → Act → World → Prop)
    (hM : QMem w w.heap.size vL l vO out vW words wr) (b1 : 0 ≤ i) (b2 : i ≤ 100000) (b3 : out.length < 100000) (b4 : words.length < 100000)
    (hK : ∀ a' w', RpSt a0 w l bad r1 r2 r3 m a' w' → K a' w') (hret : ∀ a' w', bodyPost Try.prog Try.f13 (RPost r1 r2 r3 w) .ret a' w' → Q .ret a' w')
    (c1 : i < (l.length : Int)) (k2 : ((rd_T61 l i).f0 == 2) = false) (k3 : ((rd_T61 l i).f0 == 3) = true) (d1 : (0 < words.length) = False)
    (h : ref16_Parse.l0 m l bad out [] false (i + 1) = some (r1, r2, r3)) :
    Code.wp Try.prog rpBody (Exit.then K Q) { tmps := #[.string a0, u1, u2, .pointer (some ⟨w.heap.size, 0, none⟩), vL, .int .i64 bad, vO, vW, .bool mark, .int .i64 i, u10, u11, u12, u13, u14, u15, u16, u17, u18, u19, u20, u21, u22, u23, u24, u25, u26, u27, u28, u29, u30, u31, u32, u33, u34, u35, u36, u37, u38, u39, u40, u41, u42, u43, u44, u45, u46, u47, u48, u49, u50, u51, u52, u53, u54, u55, u56, u57, u58, u59, u60, u61, u62, u63, u64, u65, u66, u67, u68, u69, u70, u71, u72, u73, u74, u75, u76, u77, u78, u79, u80, u81, u82, u83, u84, u85, u86, u87, u88, u89, u90, u91, u92, u93, u94, u95, u96, u97, u98, u99, u100, u101, u102, u103, u104, u105, u106, u107, u108, u109, u110, u111, u112, u113, u114, u115, u116, u117, u118, u119, u120, u121, u122, u123, u124, u125, u126, u127, u128, u129], defers := [] } wr := by
  obtain ⟨k0, k0b, f0, f0b, ⟨AL, cL, rfl, hcL, hL⟩, ⟨AO, cO, rfl⟩, ⟨AW, cW, rfl, hcW, hW⟩⟩ := hM.cells
  have c1b : decide (i < (l.length : Int)) = true := decide_eq_true c1
  obtain ⟨ad, hA, hx0, hx1, hx2⟩ := at_T61 hL i b1 c1
  subst hA
  have H' := Aside0.mk h
  clear h hret
  conv => arg 2; whnf
  go_wp2
  all_goals exact RpSt.mk' _ _ _ _ _ _ _ _ _ _ _ _ _ _ _ _ _ _ _ _ _ _ _ _ _ _ _ _ _ _ _ _ _ _ _ _ _ _ _ _ _ _ _ _ _ _ _ _ _ _ _ _ _ _ _ _ _ _ _ _ _ _ _ _ _ _ _ _ _ _ _ _ _ _ _ _ _ _ _ _ _ _ _ _ _ _ _ _ _ _ _ _ _ _ _ _ _ _ _ _ _ _ _ _ _ _ _ _ _ _ _ _ _ _ _ _ _ _ _ _ _ _ _ _ _ _ _ _ _ H'.out hM.none_
set_option maxHeartbeats 4000000 in
set_option maxRecDepth 1000000 in
theorem rp_2w0 (a0 : ByteArray) (l : List S61) (bad : Int) (out : List S32) (words : List ByteArray) (mark : Bool) (i : Int) (vL vO vW u1 u2 u10 u11 u12 u13 u14 u15 u16 u17 u18 u19 u20 u21 u22 u23 u24 u25 u26 u27 u28 u29 u30 u31 u32 u33 u34 u35 u36 u37 u38 u39 u40 u41 u42 u43 u44 u45 u46 u47 u48 u49 u50 u51 u52 u53 u54 u55 u56 u57 u58 u59 u60 u61 u62 u63 u64 u65 u66 u67 u68 u69 u70 u71 u72 u73 u74 u75 u76 u77 u78 u79 u80 u81 u82 u83 u84 u85 u86 u87 u88 u89 u90 u91 u92 u93 u94 u95 u96 u97 u98 u99 u100 u101 u102 u103 u104 u105 u106 u107 u108 u109 u110 u111 u112 u113 u114 u115 u116 u117 u118 u119 u120 u121 u122 u123 u124 u125 u126 u127 u128 u129 : Value) (m : Nat) (r1 : List S32) (r2 r3 : Int) (w wr : World) (K : Act → World → Prop) (Q : Exit → Act → World → Prop)
    (hM : QMem w w.heap.size vL l vO out vW words wr) (b1 : 0 ≤ i) (b2 : i ≤ 100000) (b3 : out.length < 100000) (b4 : words.length < 100000)
    (hK : ∀ a' w', RpSt a0 w l bad r1 r2 r3 m a' w' → K a' w') (hret : ∀ a' w', bodyPost Try.prog Try.f13 (RPost r1 r2 r3 w) .ret a' w' → Q .ret a' w')
    (c1 : i < (l.length : Int)) (k2 : ((rd_T61 l i).f0 == 2) = true) (d0 : ((words.length : Int) == 0) = true)
    (h : some ([], 6, (rd_T61 l i).f2) = some (r1, r2, r3)) :
    Code.wp Try.prog rpBody (Exit.then K Q) { tmps := #[.string a0, u1, u2, .pointer (some ⟨w.heap.size, 0, none⟩), vL, .int .i64 bad, vO, vW, .bool mark, .int .i64 i, u10, u11, u12, u13, u14, u15, u16, u17, u18, u19, u20, u21, u22, u23, u24, u25, u26, u27, u28, u29, u30, u31, u32, u33, u34, u35, u36, u37, u38, u39, u40, u41, u42, u43, u44, u45, u46, u47, u48, u49, u50, u51, u52, u53, u54, u55, u56, u57, u58, u59, u60, u61, u62, u63, u64, u65, u66, u67, u68, u69, u70, u71, u72, u73, u74, u75, u76, u77, u78, u79, u80, u81, u82, u83, u84, u85, u86, u87, u88, u89, u90, u91, u92, u93, u94, u95, u96, u97, u98, u99, u100, u101, u102, u103, u104, u105, u106, u107, u108, u109, u110, u111, u112, u113, u114, u115, u116, u117, u118, u119, u120, u121, u122, u123, u124, u125, u126, u127, u128, u129], defers := [] } wr := by
  obtain ⟨k0, k0b, f0, f0b, ⟨AL, cL, rfl, hcL, hL⟩, ⟨AO, cO, rfl⟩, ⟨AW, cW, rfl, hcW, hW⟩⟩ := hM.cells
  have c1b : decide (i < (l.length : Int)) = true := decide_eq_true c1
  obtain ⟨ad, hA, hx0, hx1, hx2⟩ := at_T61 hL i b1 c1
  subst hA
  injection h with h
  injection h with e1 h
  injection h with e2 e3
  subst e1 e2 e3
  clear hK
  conv => arg 2; whnf
  go_wp2
  obtain ⟨ne1, ne2⟩ := hM.ne rfl (i.toNat * 3)
  go_region_held3 (fun w' => w'.cell? ⟨(ad.add (i.toNat * 3)).block, (ad.add (i.toNat * 3)).off + 2, none⟩ = some (.int .i64 (rd_T61 l i).f2)) (go_keep) (fail)
  all_goals go_wp2
  all_goals (try dsimp +zetaDelta only [Exit.then, Exit.noGoto, Exit.inBlock])
  exact bodyPost_ret (results_tc rfl _ _ w.heap.size 26 _ (0, 0) _ rfl (blk_drew (QMem.tell hM _ _).1) Try.underlying26 rfl info26r) rfl (RPost.mk (Kd.S_nil _ _ _ _ _) (below_drew (QMem.tell hM _ _).2.1))
set_option maxHeartbeats 4000000 in
set_option maxRecDepth 1000000 in
theorem rp_2wm (a0 : ByteArray) (l : List S61) (bad : Int) (out : List S32) (words : List ByteArray) (i : Int) (vL vO vW u1 u2 u10 u11 u12 u13 u14 u15 u16 u17 u18 u19 u20 u21 u22 u23 u24 u25 u26 u27 u28 u29 u30 u31 u32 u33 u34 u35 u36 u37 u38 u39 u40 u41 u42 u43 u44 u45 u46 u47 u48 u49 u50 u51 u52 u53 u54 u55 u56 u57 u58 u59 u60 u61 u62 u63 u64 u65 u66 u67 u68 u69 u70 u71 u72 u73 u74 u75 u76 u77 u78 u79 u80 u81 u82 u83 u84 u85 u86 u87 u88 u89 u90 u91 u92 u93 u94 u95 u96 u97 u98 u99 u100 u101 u102 u103 u104 u105 u106 u107 u108 u109 u110 u111 u112 u113 u114 u115 u116 u117 u118 u119 u120 u121 u122 u123 u124 u125 u126 u127 u128 u129 : Value) (m : Nat) (r1 : List S32) (r2 r3 : Int) (w wr : World) (K : Act → World → Prop) (Q : Exit → Act → World → Prop)
    (hM : QMem w w.heap.size vL l vO out vW words wr) (b1 : 0 ≤ i) (b2 : i ≤ 100000) (b3 : out.length < 100000) (b4 : words.length < 100000)
    (hK : ∀ a' w', RpSt a0 w l bad r1 r2 r3 m a' w' → K a' w') (hret : ∀ a' w', bodyPost Try.prog Try.f13 (RPost r1 r2 r3 w) .ret a' w' → Q .ret a' w')
    (c1 : i < (l.length : Int)) (k2 : ((rd_T61 l i).f0 == 2) = true) (d0 : ((words.length : Int) == 0) = false)
    (h : some ([], 6, (rd_T61 l i).f2) = some (r1, r2, r3)) :
    Code.wp Try.prog rpBody (Exit.then K Q) { tmps := #[.string a0, u1, u2, .pointer (some ⟨w.heap.size, 0, none⟩), vL, .int .i64 bad, vO, vW, .bool true, .int .i64 i, u10, u11, u12, u13, u14, u15, u16, u17, u18, u19, u20, u21, u22, u23, u24, u25, u26, u27, u28, u29, u30, u31, u32, u33, u34, u35, u36, u37, u38, u39, u40, u41, u42, u43, u44, u45, u46, u47, u48, u49, u50, u51, u52, u53, u54, u55, u56, u57, u58, u59, u60, u61, u62, u63, u64, u65, u66, u67, u68, u69, u70, u71, u72, u73, u74, u75, u76, u77, u78, u79, u80, u81, u82, u83, u84, u85, u86, u87, u88, u89, u90, u91, u92, u93, u94, u95, u96, u97, u98, u99, u100, u101, u102, u103, u104, u105, u106, u107, u108, u109, u110, u111, u112, u113, u114, u115, u116, u117, u118, u119, u120, u121, u122, u123, u124, u125, u126, u127, u128, u129], defers := [] } wr := by
  obtain ⟨k0, k0b, f0, f0b, ⟨AL, cL, rfl, hcL, hL⟩, ⟨AO, cO, rfl⟩, ⟨AW, cW, rfl, hcW, hW⟩⟩ := hM.cells
  have c1b : decide (i < (l.length : Int)) = true := decide_eq_true c1
  obtain ⟨ad, hA, hx0, hx1, hx2⟩ := at_T61 hL i b1 c1
  subst hA
  injection h with h
  injection h with e1 h
  injection h with e2 e3
  subst e1 e2 e3
  clear hK
  conv => arg 2; whnf
  go_wp2
  obtain ⟨ne1, ne2⟩ := hM.ne rfl (i.toNat * 3)
  go_region_held3 (fun w' => w'.cell? ⟨(ad.add (i.toNat * 3)).block, (ad.add (i.toNat * 3)).off + 2, none⟩ = some (.int .i64 (rd_T61 l i).f2)) (go_keep) (fail)
  all_goals go_wp2
  all_goals (try dsimp +zetaDelta only [Exit.then, Exit.noGoto, Exit.inBlock])
  exact bodyPost_ret (results_tc rfl _ _ w.heap.size 26 _ (0, 0) _ rfl (blk_drew (QMem.tell hM _ _).1) Try.underlying26 rfl info26r) rfl (RPost.mk (Kd.S_nil _ _ _ _ _) (below_drew (QMem.tell hM _ _).2.1))
set_option maxHeartbeats 4000000 in
set_option maxRecDepth 1000000 in
theorem rp_3w (a0 : ByteArray) (l : List S61) (bad : Int) (out : List S32) (words : List ByteArray) (i : Int) (vL vO vW u1 u2 u10 u11 u12 u13 u14 u15 u16 u17 u18 u19 u20 u21 u22 u23 u24 u25 u26 u27 u28 u29 u30 u31 u32 u33 u34 u35 u36 u37 u38 u39 u40 u41 u42 u43 u44 u45 u46 u47 u48 u49 u50 u51 u52 u53 u54 u55 u56 u57 u58 u59 u60 u61 u62 u63 u64 u65 u66 u67 u68 u69 u70 u71 u72 u73 u74 u75 u76 u77 u78 u79 u80 u81 u82 u83 u84 u85 u86 u87 u88 u89 u90 u91 u92 u93 u94 u95 u96 u97 u98 u99 u100 u101 u102 u103 u104 u105 u106 u107 u108 u109 u110 u111 u112 u113 u114 u115 u116 u117 u118 u119 u120 u121 u122 u123 u124 u125 u126 u127 u128 u129 : Value) (m : Nat) (r1 : List S32) (r2 r3 : Int) (w wr : World) (K : Act → World → Prop) (Q : Exit → Act → World → Prop)
    (hM : QMem w w.heap.size vL l vO out vW words wr) (b1 : 0 ≤ i) (b2 : i ≤ 100000) (b3 : out.length < 100000) (b4 : words.length < 100000)
    (hK : ∀ a' w', RpSt a0 w l bad r1 r2 r3 m a' w' → K a' w') (hret : ∀ a' w', bodyPost Try.prog Try.f13 (RPost r1 r2 r3 w) .ret a' w' → Q .ret a' w')
    (c1 : i < (l.length : Int)) (k2 : ((rd_T61 l i).f0 == 2) = false) (k3 : ((rd_T61 l i).f0 == 3) = true) (d1 : (0 < words.length) = True)
    (h : some ([], 6, (rd_T61 l i).f2) = some (r1, r2, r3)) :
    Code.wp Try.prog rpBody (Exit.then K Q) { tmps := #[.string a0, u1, u2, .pointer (some ⟨w.heap.size, 0, none⟩), vL, .int .i64 bad, vO, vW, .bool false, .int .i64 i, u10, u11, u12, u13, u14, u15, u16, u17, u18, u19, u20, u21, u22, u23, u24, u25, u26, u27, u28, u29, u30, u31, u32, u33, u34, u35, u36, u37, u38, u39, u40, u41, u42, u43, u44, u45, u46, u47, u48, u49, u50, u51, u52, u53, u54, u55, u56, u57, u58, u59, u60, u61, u62, u63, u64, u65, u66, u67, u68, u69, u70, u71, u72, u73, u74, u75, u76, u77, u78, u79, u80, u81, u82, u83, u84, u85, u86, u87, u88, u89, u90, u91, u92, u93, u94, u95, u96, u97, u98, u99, u100, u101, u102, u103, u104, u105, u106, u107, u108, u109, u110, u111, u112, u113, u114, u115, u116, u117, u118, u119, u120, u121, u122, u123, u124, u125, u126, u127, u128, u129], defers := [] } wr := by
  obtain ⟨k0, k0b, f0, f0b, ⟨AL, cL, rfl, hcL, hL⟩, ⟨AO, cO, rfl⟩, ⟨AW, cW, rfl, hcW, hW⟩⟩ := hM.cells
  have c1b : decide (i < (l.length : Int)) = true := decide_eq_true c1
  obtain ⟨ad, hA, hx0, hx1, hx2⟩ := at_T61 hL i b1 c1
  subst hA
  injection h with h
  injection h with e1 h
  injection h with e2 e3
  subst e1 e2 e3
  clear hK
  conv => arg 2; whnf
  go_wp2
  obtain ⟨ne1, ne2⟩ := hM.ne rfl (i.toNat * 3)
  go_region_held3 (fun w' => w'.cell? ⟨(ad.add (i.toNat * 3)).block, (ad.add (i.toNat * 3)).off + 2, none⟩ = some (.int .i64 (rd_T61 l i).f2)) (go_keep) (fail)
  all_goals go_wp2
  all_goals (try dsimp +zetaDelta only [Exit.then, Exit.noGoto, Exit.inBlock])
  exact bodyPost_ret (results_tc rfl _ _ w.heap.size 26 _ (0, 0) _ rfl (blk_drew (QMem.tell hM _ _).1) Try.underlying26 rfl info26r) rfl (RPost.mk (Kd.S_nil _ _ _ _ _) (below_drew (QMem.tell hM _ _).2.1))
set_option maxHeartbeats 4000000 in
set_option maxRecDepth 1000000 in
theorem rp_4w (a0 : ByteArray) (l : List S61) (bad : Int) (out : List S32) (words : List ByteArray) (i : Int) (vL vO vW u1 u2 u10 u11 u12 u13 u14 u15 u16 u17 u18 u19 u20 u21 u22 u23 u24 u25 u26 u27 u28 u29 u30 u31 u32 u33 u34 u35 u36 u37 u38 u39 u40 u41 u42 u43 u44 u45 u46 u47 u48 u49 u50 u51 u52 u53 u54 u55 u56 u57 u58 u59 u60 u61 u62 u63 u64 u65 u66 u67 u68 u69 u70 u71 u72 u73 u74 u75 u76 u77 u78 u79 u80 u81 u82 u83 u84 u85 u86 u87 u88 u89 u90 u91 u92 u93 u94 u95 u96 u97 u98 u99 u100 u101 u102 u103 u104 u105 u106 u107 u108 u109 u110 u111 u112 u113 u114 u115 u116 u117 u118 u119 u120 u121 u122 u123 u124 u125 u126 u127 u128 u129 : Value) (m : Nat) (r1 : List S32) (r2 r3 : Int) (w wr : World) (K : Act → World → Prop) (Q : Exit → Act → World → Prop)
    (hM : QMem w w.heap.size vL l vO out vW words wr) (b1 : 0 ≤ i) (b2 : i ≤ 100000) (b3 : out.length < 100000) (b4 : words.length < 100000)
    (hK : ∀ a' w', RpSt a0 w l bad r1 r2 r3 m a' w' → K a' w') (hret : ∀ a' w', bodyPost Try.prog Try.f13 (RPost r1 r2 r3 w) .ret a' w' → Q .ret a' w')
    (c1 : i < (l.length : Int)) (k2 : ((rd_T61 l i).f0 == 2) = false) (k3 : ((rd_T61 l i).f0 == 3) = false) (k4 : ((rd_T61 l i).f0 == 4) = true) (d2 : ((words.length : Int) == 1) = true)
    (h : some ([], 6, (rd_T61 l i).f2) = some (r1, r2, r3)) :
    Code.wp Try.prog rpBody (Exit.then K Q) { tmps := #[.string a0, u1, u2, .pointer (some ⟨w.heap.size, 0, none⟩), vL, .int .i64 bad, vO, vW, .bool false, .int .i64 i, u10, u11, u12, u13, u14, u15, u16, u17, u18, u19, u20, u21, u22, u23, u24, u25, u26, u27, u28, u29, u30, u31, u32, u33, u34, u35, u36, u37, u38, u39, u40, u41, u42, u43, u44, u45, u46, u47, u48, u49, u50, u51, u52, u53, u54, u55, u56, u57, u58, u59, u60, u61, u62, u63, u64, u65, u66, u67, u68, u69, u70, u71, u72, u73, u74, u75, u76, u77, u78, u79, u80, u81, u82, u83, u84, u85, u86, u87, u88, u89, u90, u91, u92, u93, u94, u95, u96, u97, u98, u99, u100, u101, u102, u103, u104, u105, u106, u107, u108, u109, u110, u111, u112, u113, u114, u115, u116, u117, u118, u119, u120, u121, u122, u123, u124, u125, u126, u127, u128, u129], defers := [] } wr := by
  obtain ⟨k0, k0b, f0, f0b, ⟨AL, cL, rfl, hcL, hL⟩, ⟨AO, cO, rfl⟩, ⟨AW, cW, rfl, hcW, hW⟩⟩ := hM.cells
  have c1b : decide (i < (l.length : Int)) = true := decide_eq_true c1
  obtain ⟨ad, hA, hx0, hx1, hx2⟩ := at_T61 hL i b1 c1
  subst hA
  injection h with h
  injection h with e1 h
  injection h with e2 e3
  subst e1 e2 e3
  clear hK
  conv => arg 2; whnf
  go_wp2
  obtain ⟨ne1, ne2⟩ := hM.ne rfl (i.toNat * 3)
  go_region_held3 (fun w' => w'.cell? ⟨(ad.add (i.toNat * 3)).block, (ad.add (i.toNat * 3)).off + 2, none⟩ = some (.int .i64 (rd_T61 l i).f2)) (go_keep) (fail)
  all_goals go_wp2
  all_goals (try dsimp +zetaDelta only [Exit.then, Exit.noGoto, Exit.inBlock])
  exact bodyPost_ret (results_tc rfl _ _ w.heap.size 26 _ (0, 0) _ rfl (blk_drew (QMem.tell hM _ _).1) Try.underlying26 rfl info26r) rfl (RPost.mk (Kd.S_nil _ _ _ _ _) (below_drew (QMem.tell hM _ _).2.1))
set_option maxHeartbeats 4000000 in
set_option maxRecDepth 1000000 in
theorem rp_3p (a0 : ByteArray) (l : List S61) (bad : Int) (out : List S32) (words : List ByteArray) (i : Int) (vL vO vW u1 u2 u10 u11 u12 u13 u14 u15 u16 u17 u18 u19 u20 u21 u22 u23 u24 u25 u26 u27 u28 u29 u30 u31 u32 u33 u34 u35 u36 u37 u38 u39 u40 u41 u42 u43 u44 u45 u46 u47 u48 u49 u50 u51 u52 u53 u54 u55 u56 u57 u58 u59 u60 u61 u62 u63 u64 u65 u66 u67 u68 u69 u70 u71 u72 u73 u74 u75 u76 u77 u78 u79 u80 u81 u82 u83 u84 u85 u86 u87 u88 u89 u90 u91 u92 u93 u94 u95 u96 u97 u98 u99 u100 u101 u102 u103 u104 u105 u106 u107 u108 u109 u110 u111 u112 u113 u114 u115 u116 u117 u118 u119 u120 u121 u122 u123 u124 u125 u126 u127 u128 u129 : Value) (m : Nat) (r1 : List S32) (r2 r3 : Int) (w wr : World) (K : Act → World → Prop) (Q : Exit → Act → World → Prop)
    (hM : QMem w w.heap.size vL l vO out vW words wr) (b1 : 0 ≤ i) (b2 : i ≤ 100000) (b3 : out.length < 100000) (b4 : words.length < 100000)
    (hK : ∀ a' w', RpSt a0 w l bad r1 r2 r3 m a' w' → K a' w') (hret : ∀ a' w', bodyPost Try.prog Try.f13 (RPost r1 r2 r3 w) .ret a' w' → Q .ret a' w')
    (c1 : i < (l.length : Int)) (k2 : ((rd_T61 l i).f0 == 2) = false) (k3 : ((rd_T61 l i).f0 == 3) = true) (d1 : (0 < words.length) = True)
    (h : ref16_Parse.l0 m l bad (out ++ [⟨rdOf ByteArray.empty words 0, words.drop 1⟩]) [] false (i + 1) = some (r1, r2, r3)) :
    Code.wp Try.prog rpBody (Exit.then K Q) { tmps := #[.string a0, u1, u2, .pointer (some ⟨w.heap.size, 0, none⟩), vL, .int .i64 bad, vO, vW, .bool true, .int .i64 i, u10, u11, u12, u13, u14, u15, u16, u17, u18, u19, u20, u21, u22, u23, u24, u25, u26, u27, u28, u29, u30, u31, u32, u33, u34, u35, u36, u37, u38, u39, u40, u41, u42, u43, u44, u45, u46, u47, u48, u49, u50, u51, u52, u53, u54, u55, u56, u57, u58, u59, u60, u61, u62, u63, u64, u65, u66, u67, u68, u69, u70, u71, u72, u73, u74, u75, u76, u77, u78, u79, u80, u81, u82, u83, u84, u85, u86, u87, u88, u89, u90, u91, u92, u93, u94, u95, u96, u97, u98, u99, u100, u101, u102, u103, u104, u105, u106, u107, u108, u109, u110, u111, u112, u113, u114, u115, u116, u117, u118, u119, u120, u121, u122, u123, u124, u125, u126, u127, u128, u129], defers := [] } wr := by
  obtain ⟨k0, k0b, f0, f0b, ⟨AL, cL, rfl, hcL, hL⟩, ⟨AO, cO, rfl⟩, ⟨AW, cW, rfl, hcW, hW⟩⟩ := hM.cells
  have c1b : decide (i < (l.length : Int)) = true := decide_eq_true c1
  obtain ⟨ad, hA, hx0, hx1, hx2⟩ := at_T61 hL i b1 c1
  subst hA
  have H' := Aside0.mk h
  clear h hret
  conv => arg 2; whnf
  have hpos : 0 < words.length := by rw [d1]; trivial
  obtain ⟨adw, hAW, hy0⟩ := Kd.at_string hW 0 (Int.le_refl _) (by omega)
  subst hAW
  have hy1 : wr.cell? adw = some (.string (rdOf ByteArray.empty words 0)) := by have h2 := hM.headW rfl; have h3 : wr.cell? (adw.add 0) = some (.string (rdOf ByteArray.empty words 0)) := hy0; rwa [h2] at h3
  clear hy0
  obtain ⟨i0, hi0, hzz⟩ := Option.map_eq_some_iff.1 info9
  simp only [Prod.mk.injEq] at hzz
  obtain ⟨A', hsl, hRd, hlen'⟩ := print_drop_of (P := Try.prog) Value.string ByteArray.empty 30 9 .i64 Try.underlying30 hi0 hzz.2.1 (some adw) cW words 1 (by decide) (by omega) hcW
  have hsl' := fun W => hsl W
  go_wp2
  have hRw : Kd.string.C wr A' (words.length - 1) (words.drop 1) := by have h := Kd.C_of_reads (h1 := fun _ => rfl) (hRd wr (Kd.reads_of_C hW)); rwa [show (words.drop (1 : Int).toNat) = words.drop 1 from rfl, List.length_drop] at h
  have hlz : (words.drop 1).length * 16 ≤ 140737488355328 := by rw [List.length_drop]; omega
  have hlo : (out.length + 1) * 40 ≤ 140737488355328 := by omega
  have hsB : w.heap.size + 1 ≤ wr.heap.size := hM.2.1
  go_region_held3 (fun w' => w'.cell? adw = some (.string (rdOf ByteArray.empty words 0))) (go_keep) ((first | (refine rows_event (w := wr) (B := w.heap.size + 1) (ys := words.drop 1) (by rfl) (by rfl) (by rfl) (by rfl) hsB hRw hlz ?_; intro A6 c6 w1 hR1 hb1; have hy2 : w1.cell? adw = some (.string (rdOf ByteArray.empty words 0)) := (hb1.cell (World.block_lt_of_cell? _ _ hy1)).trans hy1) | (refine rpush_event (w := wr) (ys := words.drop 1) (by rfl) (by rfl) (by rfl) (by rfl) List.length_drop hM hb1 hR1 hlo rfl hy2 ?_; intro A7 c7 w3 hQ hy3)))
  all_goals go_wp2
  all_goals exact RpSt.mk' _ _ _ _ _ _ _ _ _ _ _ _ _ _ _ _ _ _ _ _ _ _ _ _ _ _ _ _ _ _ _ _ _ _ _ _ _ _ _ _ _ _ _ _ _ _ _ _ _ _ _ _ _ _ _ _ _ _ _ _ _ _ _ _ _ _ _ _ _ _ _ _ _ _ _ _ _ _ _ _ _ _ _ _ _ _ _ _ _ _ _ _ _ _ _ _ _ _ _ _ _ _ _ _ _ _ _ _ _ _ _ _ _ _ _ _ _ _ _ _ _ _ _ _ _ _ _ _ _ H'.out (by assumption)
end Go.Proofs.Ytahdgaaedilcmaa.P
