/- The guard of the statements on patterns, path.Fill, and PathFills' own function: the walks. -/
import Derived.Test.YtpphdmpnnnimdaaDoorPlFill
import Derived.Test.YtpphdmpnnnimdaaDoorShelf
import Derived.Test.YtpphdmpnnnimdaaDoorPxf9
namespace Go.Proofs.YtpphdmpnnnimdaaDoor.P
open Go.RowKit Go.Proofs.YtpphdmpnnnimdaaDoorW.PrintWords Go.Proofs.YtpphdmpnnnimdaaDoorW.PrintLast Go.Proofs.YtpphdmpnnnimdaaDoorW.PrintMore Go.Proofs.YtpphdmpnnnimdaaDoor.Pl
set_option linter.unusedVariables false
theorem works_norm : ∃ k, path_Norm.f k (⟨#[97, 47, 47, 98, 47, 46, 47, 46, 46, 47, 99]⟩ : ByteArray) = some ((⟨#[97, 47, 99]⟩ : ByteArray), 0) := ⟨60, by kernel_rfl⟩
theorem run_equalIn_func_nil {P : Program} (w : World) (d : Nat) (t : TypeId) {ps rs : Array TypeId} {v : Bool} (hu : P.underlying t = some (.func ps rs v)) (fn : Fn) (first cap : Array Value) : (Op.equalIn (d + 1) t (.func fn first cap) .nilFunc).run P w = .ok false w := by
  simp [Op.equalIn, run_underlying hu]
theorem run_neq_func_nil {P : Program} (w : World) (t : TypeId) {ps rs : Array TypeId} {v : Bool} (hu : P.underlying t = some (.func ps rs v)) (fn : Fn) (first cap : Array Value) :
    (binOp .neq t (.func fn first cap) .nilFunc).run P w = .ok (.bool true) w := by
  simp only [binOp]
  simp [Op.equal, Op.maxDepth, run_equalIn_func_nil w 9999 t hu fn first cap]
set_option maxHeartbeats 1000000 in
set_option maxRecDepth 100000 in
theorem works_calls (w : World) : Calls Tryd.prog 5 #[] w fun e w' => e = .returned (.bool true) ∧ Below w.heap.size w w' := by
  obtain ⟨k, hk⟩ := works_norm
  have HK := Aside0.mk hk
  clear hk
  have he := fun (W : World) fn f c => run_neq_func_nil (P := Tryd.prog) W 35 Tryd.underlying35 fn f c
  go_enter Tryd.func5, Tryd.ntmps5
  go_wp2_with fail
  refine (path_Norm.calls k _ _ _ _ HK.out).mono ?_
  rintro e w1 ⟨rfl, hb⟩
  go_wp2
  go_ret
  exact ⟨rfl, (hb.alloc hb.size _)⟩
/-- path.Fill, of texts that are short -/
theorem fill_calls (a0 a1 : ByteArray) (m : Int) (w : World) (hm : w.cell? ⟨0, 0, none⟩ = some (.int .i64 m)) (h0 : a0.size ≤ 100000) (h1 : a1.size ≤ 100000) :
    Calls Tryd.prog 6 #[.string a0, .string a1] w fun e w' => e = .returned (.string (B (fillL (L a0) (L a1)))) ∧ Below w.heap.size w w' := by
  have hc := Lib.countB_le (⟨#[37]⟩ : ByteArray) (by decide) a0.size a0 (Nat.le_refl _)
  have hlen : a0.size + Lib.countB a0 (⟨#[37]⟩ : ByteArray) * a1.size ≤ 140737488355328 := by
    have := Nat.mul_le_mul (Nat.le_trans hc h0) h1
    omega
  go_enter Tryd.func6, Tryd.ntmps6
  go_wp2_with fail
  refine (Tryd.strings_ReplaceAll a0 (⟨#[37]⟩ : ByteArray) a1 m w (by omega) hm (by decide) hlen).mono ?_
  rintro e w1 ⟨rfl, hb⟩
  have hr : (⟨(Lib.replaceAll a0.data.toList (⟨#[37]⟩ : ByteArray).data.toList a1.data.toList).toArray⟩ : ByteArray) = B (fillL (L a0) (L a1)) := by
    show B (Lib.replaceAll (L a0) [37] (L a1)) = _
    rw [replaceAll_fill]
  rw [hr]
  go_wp2
  go_ret
  exact ⟨rfl, hb⟩
set_option maxHeartbeats 1000000 in
set_option maxRecDepth 100000 in
theorem fills_walk (a0 a1 : ByteArray) (m : Int) (w : World) (hm : w.cell? ⟨0, 0, none⟩ = some (.int .i64 m)) :
    Calls Tryd.prog 3 #[.string a0, .string a1] w fun e w' => e = .returned (.bool true) ∧ Below w.heap.size w w' := by
  by_cases c0 : (1000 : Int) < (a0.size : Int)
  · have c0b : decide ((1000 : Int) < (a0.size : Int)) = true := decide_eq_true c0
    go_enter Tryd.func3, Tryd.ntmps3
    go_wp2_with fail
    refine (works_calls _).mono ?_
    rintro e w1 ⟨rfl, hb1⟩
    go_wp2
    go_ret
    exact ⟨rfl, hb1⟩
  have c0b : decide ((1000 : Int) < (a0.size : Int)) = false := decide_eq_false c0
  by_cases c1 : (1000 : Int) < (a1.size : Int)
  · have c1b : decide ((1000 : Int) < (a1.size : Int)) = true := decide_eq_true c1
    go_enter Tryd.func3, Tryd.ntmps3
    go_wp2_with fail
    refine (works_calls _).mono ?_
    rintro e w1 ⟨rfl, hb1⟩
    go_wp2
    go_ret
    exact ⟨rfl, hb1⟩
  have c1b : decide ((1000 : Int) < (a1.size : Int)) = false := decide_eq_false c1
  obtain ⟨k, hk⟩ := ev_some (fill_ev a0 a1 (by omega) (by omega))
  have HK := Aside0.mk hk
  clear hk
  have hs0 : a0.size ≤ 100000 := by omega
  have hs1 : a1.size ≤ 100000 := by omega
  obtain ⟨R, hR⟩ : ∃ R, B (fillL (L a0) (L a1)) = R := ⟨_, rfl⟩
  rw [hR] at HK
  go_enter Tryd.func3, Tryd.ntmps3
  go_wp2_with fail
  refine (works_calls _).mono ?_
  rintro e w1 ⟨rfl, hb1⟩
  have hm1 : w1.cell? ⟨0, 0, none⟩ = some (.int .i64 m) := (hb1.cell (World.block_lt_of_cell? _ _ hm)).trans hm
  go_wp2_with fail
  refine (fill_calls a0 a1 m w1 hm1 hs0 hs1).mono ?_
  rintro e w2 ⟨rfl, hb2⟩
  rw [hR]
  have hb2w := below_then hb1 hb1.size hb2
  go_wp2_with fail
  refine (brickyardref09_Fill.calls k a0 a1 R w2 HK.out).mono ?_
  rintro e w3 ⟨rfl, hb3⟩
  have hb3w := below_then hb2w hb2w.size hb3
  have hss : (R.toList == R.toList) = true := beq_self_eq_true _
  go_wp2
  go_ret
  exact ⟨rfl, hb3w⟩
end Go.Proofs.YtpphdmpnnnimdaaDoor.P
