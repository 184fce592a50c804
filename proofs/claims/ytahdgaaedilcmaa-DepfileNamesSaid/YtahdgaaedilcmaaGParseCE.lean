/- depfile.Parse: cases of a round. -/
import Derived.Test.YtahdgaaedilcmaaGParseA
namespace Go.Proofs.Ytahdgaaedilcmaa.P
open Go.RowKit Go.Proofs.YtahdgaaedilcmaaW.PrintWords Go.Proofs.YtahdgaaedilcmaaW.PrintLast Go.Proofs.YtahdgaaedilcmaaW.PrintMore
set_option linter.unusedVariables false
set_option linter.unusedSimpArgs false
set_option maxHeartbeats 4000000 in
set_option maxRecDepth 1000000 in
theorem dp_Fw (a0 : ByteArray) (out : List S32) (rule : S32) (word : ByteArray) (inn tgt : Bool) (i : Int) (vO u1 u2 u13 u14 u15 u16 u17 u18 u19 u20 u21 u22 u23 u24 u25 u26 u27 u28 u29 u30 u31 u32 u33 u34 u35 u36 u37 u38 u39 u40 u41 u42 u43 u44 u45 u46 u47 u48 u49 u50 u51 u52 u53 u54 u55 u56 u57 u58 u59 u60 u61 u62 u63 u64 u65 u66 u67 u68 u69 u70 u71 u72 u73 u74 u75 u76 u77 u78 u79 u80 u81 u82 u83 u84 u85 u86 u87 u88 u89 u90 u91 u92 u93 u94 u95 u96 u97 u98 u99 u100 u101 u102 u103 u104 u105 u106 u107 u108 u109 u110 u111 u112 u113 u114 u115 u116 u117 u118 u119 u120 u121 u122 u123 u124 u125 u126 u127 u128 u129 u130 u131 u132 u133 u134 u135 u136 u137 : Value) (m : Nat) (r1 : List S32) (r2 r3 : Int) (w wr : World) (K : Act → World → Prop) (Q : Exit → Act → World → Prop)
    (hM : PMem w w.heap.size vO out rule word inn tgt false wr) (b1 : 0 ≤ i) (b2 : i ≤ 32770) (b3 : out.length < 100000) (b4 : rule.f1.length < 100000) (b5 : word.size < 100000)
    (hK : ∀ a' w', DpSt a0 w r1 r2 r3 m a' w' → K a' w') (hret : ∀ a' w', bodyPost Try.prog Try.f12 (DPost r1 r2 r3 w) .ret a' w' → Q .ret a' w')
    (c1 : i ≤ (a0.size : Int)) (c3 : i < (a0.size : Int)) (c2a : (i == (a0.size : Int)) = false) (c2c : (bt a0 i == 10) = false) (hx : ∀ h : i.toNat < a0.size, ((a0[i.toNat]'h).toNat : Int) = bt a0 i) (c20 : decide (bt a0 i < 32) = false) (c21 : (bt a0 i == 32) = false) (c22 : (bt a0 i == 58) = false) (c23 : (bt a0 i == 92) = false) (d1 : inn = false) (d2 : tgt = true)
    (h : some ([], 6, i) = some (r1, r2, r3)) :
    Code.wp Try.prog dpBody (Exit.then K Q) { tmps := #[.string a0, u1, u2, .pointer (some ⟨w.heap.size, 0, none⟩), vO, .pointer (some ⟨w.heap.size + 1, 0, none⟩), .pointer (some ⟨w.heap.size + 2, 0, none⟩), .pointer (some ⟨w.heap.size + 3, 0, none⟩), .pointer (some ⟨w.heap.size + 4, 0, none⟩), .pointer (some ⟨w.heap.size + 5, 0, none⟩), .func (.func 27) #[] #[.pointer (some ⟨w.heap.size + 3, 0, none⟩), .pointer (some ⟨w.heap.size + 5, 0, none⟩), .pointer (some ⟨w.heap.size + 1, 0, none⟩), .pointer (some ⟨w.heap.size + 2, 0, none⟩), .pointer (some ⟨w.heap.size + 4, 0, none⟩)], .func (.func 28) #[] #[], .int .i64 i, u13, u14, u15, u16, u17, u18, u19, u20, u21, u22, u23, u24, u25, u26, u27, u28, u29, u30, u31, u32, u33, u34, u35, u36, u37, u38, u39, u40, u41, u42, u43, u44, u45, u46, u47, u48, u49, u50, u51, u52, u53, u54, u55, u56, u57, u58, u59, u60, u61, u62, u63, u64, u65, u66, u67, u68, u69, u70, u71, u72, u73, u74, u75, u76, u77, u78, u79, u80, u81, u82, u83, u84, u85, u86, u87, u88, u89, u90, u91, u92, u93, u94, u95, u96, u97, u98, u99, u100, u101, u102, u103, u104, u105, u106, u107, u108, u109, u110, u111, u112, u113, u114, u115, u116, u117, u118, u119, u120, u121, u122, u123, u124, u125, u126, u127, u128, u129, u130, u131, u132, u133, u134, u135, u136, u137], defers := [] } wr := by
  obtain ⟨k3, k4, k5, k2, k0, k0b, f0, f0b, f2, f3, f4, f5, f1, f1b, k1, A1, n1, C1, k1b⟩ := hM.cells
  have c1b : decide (i ≤ (a0.size : Int)) = true := decide_eq_true c1
  have hw32 : wrap32 (bt a0 (i + 1)) = bt a0 (i + 1) := wrap32_ (bt_range _ _).1 (bt_range _ _).2
  subst d1 d2
  injection h with h
  injection h with e1 h
  injection h with e2 e3
  subst e1 e2 e3
  clear hK
  conv => arg 2; whnf
  go_wp2_with (first | (go_at_call 28; refine (wrong_calls _ _).mono ?_; rintro e w4 ⟨rfl, hb4⟩; have hM4 := PMem.below_ hM hb4; obtain ⟨r3, r4, r5, r2_, r0, r0b, s0, s0b, s2, s3, s4, s5, s1, s1b, p1, A4, n4, C4, p1b⟩ := hM4.cells) | go_in)
  all_goals (try dsimp +zetaDelta only [Exit.then, Exit.noGoto, Exit.inBlock])
  first | exact (bodyPost_ret (results_tc rfl _ _ w.heap.size 26 _ (0, 0) _ rfl (PMem.tell hM4 _ _).1 Try.underlying26 rfl info26s) rfl (DPost.mk (Kd.S_nil _ _ _ _ _) (PMem.tell hM4 _ _).2.1)) | exact hret _ _ (bodyPost_ret (results_tc rfl _ _ w.heap.size 26 _ (0, 0) _ rfl (PMem.tell hM4 _ _).1 Try.underlying26 rfl info26s) rfl (DPost.mk (Kd.S_nil _ _ _ _ _) (PMem.tell hM4 _ _).2.1))
set_option maxHeartbeats 4000000 in
set_option maxRecDepth 1000000 in
theorem dp_Fi (a0 : ByteArray) (out : List S32) (rule : S32) (word : ByteArray) (inn tgt col : Bool) (i : Int) (vO u1 u2 u13 u14 u15 u16 u17 u18 u19 u20 u21 u22 u23 u24 u25 u26 u27 u28 u29 u30 u31 u32 u33 u34 u35 u36 u37 u38 u39 u40 u41 u42 u43 u44 u45 u46 u47 u48 u49 u50 u51 u52 u53 u54 u55 u56 u57 u58 u59 u60 u61 u62 u63 u64 u65 u66 u67 u68 u69 u70 u71 u72 u73 u74 u75 u76 u77 u78 u79 u80 u81 u82 u83 u84 u85 u86 u87 u88 u89 u90 u91 u92 u93 u94 u95 u96 u97 u98 u99 u100 u101 u102 u103 u104 u105 u106 u107 u108 u109 u110 u111 u112 u113 u114 u115 u116 u117 u118 u119 u120 u121 u122 u123 u124 u125 u126 u127 u128 u129 u130 u131 u132 u133 u134 u135 u136 u137 : Value) (m : Nat) (r1 : List S32) (r2 r3 : Int) (w wr : World) (K : Act → World → Prop) (Q : Exit → Act → World → Prop)
    (hM : PMem w w.heap.size vO out rule word inn tgt col wr) (b1 : 0 ≤ i) (b2 : i ≤ 32770) (b3 : out.length < 100000) (b4 : rule.f1.length < 100000) (b5 : word.size < 100000)
    (hK : ∀ a' w', DpSt a0 w r1 r2 r3 m a' w' → K a' w') (hret : ∀ a' w', bodyPost Try.prog Try.f12 (DPost r1 r2 r3 w) .ret a' w' → Q .ret a' w')
    (c1 : i ≤ (a0.size : Int)) (c3 : i < (a0.size : Int)) (c2a : (i == (a0.size : Int)) = false) (c2c : (bt a0 i == 10) = false) (hx : ∀ h : i.toNat < a0.size, ((a0[i.toNat]'h).toNat : Int) = bt a0 i) (c20 : decide (bt a0 i < 32) = false) (c21 : (bt a0 i == 32) = false) (c22 : (bt a0 i == 58) = false) (c23 : (bt a0 i == 92) = false) (d1 : inn = true)
    (h : depfile_Parse.l0 m a0 out rule (word ++ oneB (bt a0 i)) true tgt col (i + 1) = some (r1, r2, r3)) :
    Code.wp Try.prog dpBody (Exit.then K Q) { tmps := #[.string a0, u1, u2, .pointer (some ⟨w.heap.size, 0, none⟩), vO, .pointer (some ⟨w.heap.size + 1, 0, none⟩), .pointer (some ⟨w.heap.size + 2, 0, none⟩), .pointer (some ⟨w.heap.size + 3, 0, none⟩), .pointer (some ⟨w.heap.size + 4, 0, none⟩), .pointer (some ⟨w.heap.size + 5, 0, none⟩), .func (.func 27) #[] #[.pointer (some ⟨w.heap.size + 3, 0, none⟩), .pointer (some ⟨w.heap.size + 5, 0, none⟩), .pointer (some ⟨w.heap.size + 1, 0, none⟩), .pointer (some ⟨w.heap.size + 2, 0, none⟩), .pointer (some ⟨w.heap.size + 4, 0, none⟩)], .func (.func 28) #[] #[], .int .i64 i, u13, u14, u15, u16, u17, u18, u19, u20, u21, u22, u23, u24, u25, u26, u27, u28, u29, u30, u31, u32, u33, u34, u35, u36, u37, u38, u39, u40, u41, u42, u43, u44, u45, u46, u47, u48, u49, u50, u51, u52, u53, u54, u55, u56, u57, u58, u59, u60, u61, u62, u63, u64, u65, u66, u67, u68, u69, u70, u71, u72, u73, u74, u75, u76, u77, u78, u79, u80, u81, u82, u83, u84, u85, u86, u87, u88, u89, u90, u91, u92, u93, u94, u95, u96, u97, u98, u99, u100, u101, u102, u103, u104, u105, u106, u107, u108, u109, u110, u111, u112, u113, u114, u115, u116, u117, u118, u119, u120, u121, u122, u123, u124, u125, u126, u127, u128, u129, u130, u131, u132, u133, u134, u135, u136, u137], defers := [] } wr := by
  obtain ⟨k3, k4, k5, k2, k0, k0b, f0, f0b, f2, f3, f4, f5, f1, f1b, k1, A1, n1, C1, k1b⟩ := hM.cells
  have c1b : decide (i ≤ (a0.size : Int)) = true := decide_eq_true c1
  have hw32 : wrap32 (bt a0 (i + 1)) = bt a0 (i + 1) := wrap32_ (bt_range _ _).1 (bt_range _ _).2
  have hcv := fun (W : World) => conv_one W (bt a0 i) (bt_range _ _).1 (bt_range _ _).2
  have hnl : (9223372036854775807 < word.size + (oneB (bt a0 i)).size) = False := eq_false (by rw [oneB, strOfNums_size]; simp; omega)
  have hMa := PMem.below_ hM ((Below.refl _ _).alloc (Nat.le_refl _) (.cells #[.int .u8 (bt a0 i)] 5))
  obtain ⟨a3, a4, a5, a2, a00, a00b, ff0, ff0b, ff2, ff3, ff4, ff5, ff1, ff1b, a1, A5, n5, C5, a1b⟩ := hMa.cells
  subst d1
  have H' := Aside0.mk h
  clear h hret
  conv => arg 2; whnf
  go_wp2_with (first | go_in)
  all_goals exact DpSt.mk' _ _ _ _ _ _ _ _ _ _ _ _ _ _ _ _ _ _ _ _ _ _ _ _ _ _ _ _ _ _ _ _ _ _ _ _ _ _ _ _ _ _ _ _ _ _ _ _ _ _ _ _ _ _ _ _ _ _ _ _ _ _ _ _ _ _ _ _ _ _ _ _ _ _ _ _ _ _ _ _ _ _ _ _ _ _ _ _ _ _ _ _ _ _ _ _ _ _ _ _ _ _ _ _ _ _ _ _ _ _ _ _ _ _ _ _ _ _ _ _ _ _ _ _ _ _ _ _ _ _ _ _ _ _ _ H'.out ((hMa.setWord _).setInn true)
set_option maxHeartbeats 4000000 in
set_option maxRecDepth 1000000 in
theorem dp_Ft (a0 : ByteArray) (out : List S32) (rule : S32) (word : ByteArray) (inn tgt col : Bool) (i : Int) (vO u1 u2 u13 u14 u15 u16 u17 u18 u19 u20 u21 u22 u23 u24 u25 u26 u27 u28 u29 u30 u31 u32 u33 u34 u35 u36 u37 u38 u39 u40 u41 u42 u43 u44 u45 u46 u47 u48 u49 u50 u51 u52 u53 u54 u55 u56 u57 u58 u59 u60 u61 u62 u63 u64 u65 u66 u67 u68 u69 u70 u71 u72 u73 u74 u75 u76 u77 u78 u79 u80 u81 u82 u83 u84 u85 u86 u87 u88 u89 u90 u91 u92 u93 u94 u95 u96 u97 u98 u99 u100 u101 u102 u103 u104 u105 u106 u107 u108 u109 u110 u111 u112 u113 u114 u115 u116 u117 u118 u119 u120 u121 u122 u123 u124 u125 u126 u127 u128 u129 u130 u131 u132 u133 u134 u135 u136 u137 : Value) (m : Nat) (r1 : List S32) (r2 r3 : Int) (w wr : World) (K : Act → World → Prop) (Q : Exit → Act → World → Prop)
    (hM : PMem w w.heap.size vO out rule word inn tgt col wr) (b1 : 0 ≤ i) (b2 : i ≤ 32770) (b3 : out.length < 100000) (b4 : rule.f1.length < 100000) (b5 : word.size < 100000)
    (hK : ∀ a' w', DpSt a0 w r1 r2 r3 m a' w' → K a' w') (hret : ∀ a' w', bodyPost Try.prog Try.f12 (DPost r1 r2 r3 w) .ret a' w' → Q .ret a' w')
    (c1 : i ≤ (a0.size : Int)) (c3 : i < (a0.size : Int)) (c2a : (i == (a0.size : Int)) = false) (c2c : (bt a0 i == 10) = false) (hx : ∀ h : i.toNat < a0.size, ((a0[i.toNat]'h).toNat : Int) = bt a0 i) (c20 : decide (bt a0 i < 32) = false) (c21 : (bt a0 i == 32) = false) (c22 : (bt a0 i == 58) = false) (c23 : (bt a0 i == 92) = false) (d1 : inn = false) (d2 : tgt = false)
    (h : depfile_Parse.l0 m a0 out rule (word ++ oneB (bt a0 i)) true tgt col (i + 1) = some (r1, r2, r3)) :
    Code.wp Try.prog dpBody (Exit.then K Q) { tmps := #[.string a0, u1, u2, .pointer (some ⟨w.heap.size, 0, none⟩), vO, .pointer (some ⟨w.heap.size + 1, 0, none⟩), .pointer (some ⟨w.heap.size + 2, 0, none⟩), .pointer (some ⟨w.heap.size + 3, 0, none⟩), .pointer (some ⟨w.heap.size + 4, 0, none⟩), .pointer (some ⟨w.heap.size + 5, 0, none⟩), .func (.func 27) #[] #[.pointer (some ⟨w.heap.size + 3, 0, none⟩), .pointer (some ⟨w.heap.size + 5, 0, none⟩), .pointer (some ⟨w.heap.size + 1, 0, none⟩), .pointer (some ⟨w.heap.size + 2, 0, none⟩), .pointer (some ⟨w.heap.size + 4, 0, none⟩)], .func (.func 28) #[] #[], .int .i64 i, u13, u14, u15, u16, u17, u18, u19, u20, u21, u22, u23, u24, u25, u26, u27, u28, u29, u30, u31, u32, u33, u34, u35, u36, u37, u38, u39, u40, u41, u42, u43, u44, u45, u46, u47, u48, u49, u50, u51, u52, u53, u54, u55, u56, u57, u58, u59, u60, u61, u62, u63, u64, u65, u66, u67, u68, u69, u70, u71, u72, u73, u74, u75, u76, u77, u78, u79, u80, u81, u82, u83, u84, u85, u86, u87, u88, u89, u90, u91, u92, u93, u94, u95, u96, u97, u98, u99, u100, u101, u102, u103, u104, u105, u106, u107, u108, u109, u110, u111, u112, u113, u114, u115, u116, u117, u118, u119, u120, u121, u122, u123, u124, u125, u126, u127, u128, u129, u130, u131, u132, u133, u134, u135, u136, u137], defers := [] } wr := by
  obtain ⟨k3, k4, k5, k2, k0, k0b, f0, f0b, f2, f3, f4, f5, f1, f1b, k1, A1, n1, C1, k1b⟩ := hM.cells
  have c1b : decide (i ≤ (a0.size : Int)) = true := decide_eq_true c1
  have hw32 : wrap32 (bt a0 (i + 1)) = bt a0 (i + 1) := wrap32_ (bt_range _ _).1 (bt_range _ _).2
  have hcv := fun (W : World) => conv_one W (bt a0 i) (bt_range _ _).1 (bt_range _ _).2
  have hnl : (9223372036854775807 < word.size + (oneB (bt a0 i)).size) = False := eq_false (by rw [oneB, strOfNums_size]; simp; omega)
  have hMa := PMem.below_ hM ((Below.refl _ _).alloc (Nat.le_refl _) (.cells #[.int .u8 (bt a0 i)] 5))
  obtain ⟨a3, a4, a5, a2, a00, a00b, ff0, ff0b, ff2, ff3, ff4, ff5, ff1, ff1b, a1, A5, n5, C5, a1b⟩ := hMa.cells
  subst d1 d2
  have H' := Aside0.mk h
  clear h hret
  conv => arg 2; whnf
  go_wp2_with (first | go_in)
  all_goals exact DpSt.mk' _ _ _ _ _ _ _ _ _ _ _ _ _ _ _ _ _ _ _ _ _ _ _ _ _ _ _ _ _ _ _ _ _ _ _ _ _ _ _ _ _ _ _ _ _ _ _ _ _ _ _ _ _ _ _ _ _ _ _ _ _ _ _ _ _ _ _ _ _ _ _ _ _ _ _ _ _ _ _ _ _ _ _ _ _ _ _ _ _ _ _ _ _ _ _ _ _ _ _ _ _ _ _ _ _ _ _ _ _ _ _ _ _ _ _ _ _ _ _ _ _ _ _ _ _ _ _ _ _ _ _ _ _ _ _ H'.out ((hMa.setWord _).setInn true)
set_option maxHeartbeats 4000000 in
set_option maxRecDepth 1000000 in
theorem dp_Fc (a0 : ByteArray) (out : List S32) (rule : S32) (word : ByteArray) (inn tgt : Bool) (i : Int) (vO u1 u2 u13 u14 u15 u16 u17 u18 u19 u20 u21 u22 u23 u24 u25 u26 u27 u28 u29 u30 u31 u32 u33 u34 u35 u36 u37 u38 u39 u40 u41 u42 u43 u44 u45 u46 u47 u48 u49 u50 u51 u52 u53 u54 u55 u56 u57 u58 u59 u60 u61 u62 u63 u64 u65 u66 u67 u68 u69 u70 u71 u72 u73 u74 u75 u76 u77 u78 u79 u80 u81 u82 u83 u84 u85 u86 u87 u88 u89 u90 u91 u92 u93 u94 u95 u96 u97 u98 u99 u100 u101 u102 u103 u104 u105 u106 u107 u108 u109 u110 u111 u112 u113 u114 u115 u116 u117 u118 u119 u120 u121 u122 u123 u124 u125 u126 u127 u128 u129 u130 u131 u132 u133 u134 u135 u136 u137 : Value) (m : Nat) (r1 : List S32) (r2 r3 : Int) (w wr : World) (K : Act → World → Prop) (Q : Exit → Act → World → Prop)
    (hM : PMem w w.heap.size vO out rule word inn tgt true wr) (b1 : 0 ≤ i) (b2 : i ≤ 32770) (b3 : out.length < 100000) (b4 : rule.f1.length < 100000) (b5 : word.size < 100000)
    (hK : ∀ a' w', DpSt a0 w r1 r2 r3 m a' w' → K a' w') (hret : ∀ a' w', bodyPost Try.prog Try.f12 (DPost r1 r2 r3 w) .ret a' w' → Q .ret a' w')
    (c1 : i ≤ (a0.size : Int)) (c3 : i < (a0.size : Int)) (c2a : (i == (a0.size : Int)) = false) (c2c : (bt a0 i == 10) = false) (hx : ∀ h : i.toNat < a0.size, ((a0[i.toNat]'h).toNat : Int) = bt a0 i) (c20 : decide (bt a0 i < 32) = false) (c21 : (bt a0 i == 32) = false) (c22 : (bt a0 i == 58) = false) (c23 : (bt a0 i == 92) = false) (d1 : inn = false) (d2 : tgt = true)
    (h : depfile_Parse.l0 m a0 out rule (word ++ oneB (bt a0 i)) true tgt true (i + 1) = some (r1, r2, r3)) :
    Code.wp Try.prog dpBody (Exit.then K Q) { tmps := #[.string a0, u1, u2, .pointer (some ⟨w.heap.size, 0, none⟩), vO, .pointer (some ⟨w.heap.size + 1, 0, none⟩), .pointer (some ⟨w.heap.size + 2, 0, none⟩), .pointer (some ⟨w.heap.size + 3, 0, none⟩), .pointer (some ⟨w.heap.size + 4, 0, none⟩), .pointer (some ⟨w.heap.size + 5, 0, none⟩), .func (.func 27) #[] #[.pointer (some ⟨w.heap.size + 3, 0, none⟩), .pointer (some ⟨w.heap.size + 5, 0, none⟩), .pointer (some ⟨w.heap.size + 1, 0, none⟩), .pointer (some ⟨w.heap.size + 2, 0, none⟩), .pointer (some ⟨w.heap.size + 4, 0, none⟩)], .func (.func 28) #[] #[], .int .i64 i, u13, u14, u15, u16, u17, u18, u19, u20, u21, u22, u23, u24, u25, u26, u27, u28, u29, u30, u31, u32, u33, u34, u35, u36, u37, u38, u39, u40, u41, u42, u43, u44, u45, u46, u47, u48, u49, u50, u51, u52, u53, u54, u55, u56, u57, u58, u59, u60, u61, u62, u63, u64, u65, u66, u67, u68, u69, u70, u71, u72, u73, u74, u75, u76, u77, u78, u79, u80, u81, u82, u83, u84, u85, u86, u87, u88, u89, u90, u91, u92, u93, u94, u95, u96, u97, u98, u99, u100, u101, u102, u103, u104, u105, u106, u107, u108, u109, u110, u111, u112, u113, u114, u115, u116, u117, u118, u119, u120, u121, u122, u123, u124, u125, u126, u127, u128, u129, u130, u131, u132, u133, u134, u135, u136, u137], defers := [] } wr := by
  obtain ⟨k3, k4, k5, k2, k0, k0b, f0, f0b, f2, f3, f4, f5, f1, f1b, k1, A1, n1, C1, k1b⟩ := hM.cells
  have c1b : decide (i ≤ (a0.size : Int)) = true := decide_eq_true c1
  have hw32 : wrap32 (bt a0 (i + 1)) = bt a0 (i + 1) := wrap32_ (bt_range _ _).1 (bt_range _ _).2
  have hcv := fun (W : World) => conv_one W (bt a0 i) (bt_range _ _).1 (bt_range _ _).2
  have hnl : (9223372036854775807 < word.size + (oneB (bt a0 i)).size) = False := eq_false (by rw [oneB, strOfNums_size]; simp; omega)
  have hMa := PMem.below_ hM ((Below.refl _ _).alloc (Nat.le_refl _) (.cells #[.int .u8 (bt a0 i)] 5))
  obtain ⟨a3, a4, a5, a2, a00, a00b, ff0, ff0b, ff2, ff3, ff4, ff5, ff1, ff1b, a1, A5, n5, C5, a1b⟩ := hMa.cells
  subst d1 d2
  have H' := Aside0.mk h
  clear h hret
  conv => arg 2; whnf
  go_wp2_with (first | go_in)
  all_goals exact DpSt.mk' _ _ _ _ _ _ _ _ _ _ _ _ _ _ _ _ _ _ _ _ _ _ _ _ _ _ _ _ _ _ _ _ _ _ _ _ _ _ _ _ _ _ _ _ _ _ _ _ _ _ _ _ _ _ _ _ _ _ _ _ _ _ _ _ _ _ _ _ _ _ _ _ _ _ _ _ _ _ _ _ _ _ _ _ _ _ _ _ _ _ _ _ _ _ _ _ _ _ _ _ _ _ _ _ _ _ _ _ _ _ _ _ _ _ _ _ _ _ _ _ _ _ _ _ _ _ _ _ _ _ _ _ _ _ _ H'.out ((hMa.setWord _).setInn true)
end Go.Proofs.Ytahdgaaedilcmaa.P
