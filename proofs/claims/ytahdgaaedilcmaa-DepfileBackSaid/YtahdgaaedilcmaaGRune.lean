/- strings.ContainsRune over the four bytes that may be escaped in a depfile, at any byte. -/
import Derived.Test.YtahdgaaedilcmaaShelf
import Derived.Test.YtahdgaaedilcmaaG1
import Derived.Test.YtahdgaaedilcmaaWMore
import Derived.WalkMore
import Derived.ScopeJumps
import Derived.BigQuiet
namespace Go.Proofs.Ytahdgaaedilcmaa.P
open Go.RowKit Go.Proofs.YtahdgaaedilcmaaW.PrintWords Go.Proofs.YtahdgaaedilcmaaW.PrintLast Go.Proofs.YtahdgaaedilcmaaW.PrintMore
set_option linter.unusedVariables false
set_option linter.unusedSimpArgs false

theorem encode_two (r : Int) (h0 : 128 ≤ r) (h1 : r < 256) : (Utf8.encode r).size = 2 ∧ ∀ h : 1 < (Utf8.encode r).size, 128 ≤ ((Utf8.encode r)[1]'h).toNat := by
  have hv : Utf8.valid r = true := by unfold Utf8.valid; simp; omega
  have hs : (Utf8.encode r).size = 2 := by
    have hc : ¬ r.toNat < 128 := by omega
    have hc2 : r.toNat < 2048 := by omega
    unfold Utf8.encode
    simp only [hv, if_true, hc, if_false, hc2]
    rfl
  refine ⟨hs, fun h => ?_⟩
  have h3 := (encode_facts r hv h0).2.2
  simp only [hs] at h3
  exact h3 (by omega)
set_option maxHeartbeats 4000000 in
set_option maxRecDepth 1000000 in
theorem indexRune_high (r : Int) (w : World) (h0 : 128 ≤ r) (h1 : r < 256) :
    Calls Try.prog 41 #[.string ⟨#[10, 32, 58, 92]⟩, .int .i32 r] w fun e w' => e = .returned (.int .i64 (-1)) ∧ Drawn0 w w' := by
  obtain ⟨e1, e2⟩ := encode_two r h0 h1
  go_enter Try.func41, Try.ntmps41
  go_wp2_with (first
    | (go_at_call 54; refine (Try.utf8_ValidRune _ _).mono ?_; rintro e w' ⟨rfl, rfl⟩)
    | (go_at_call 53; refine (Try.strings_IndexByte _ _ _).mono ?_; rintro e w' ⟨rfl, rfl⟩))
  · exfalso
    have hv : Lib.validRune r = true := by simp only [Lib.validRune]; simp; omega
    rename_i hx
    rw [hv] at hx
    exact absurd hx (by decide)
  refine wp_scope_straight ?_
  go_wp2
  refine wp_loop_once ?_
  go_wp2
  refine wp_scope_straight ?_
  go_wp2
  have hb1 : 128 ≤ bt (Utf8.encode r) 1 := by
    have h3 := e2 (by rw [e1]; decide)
    have h4 := bt_at (Utf8.encode r) 1 (by rw [e1]; decide)
    rw [← h4]
    exact_mod_cast h3
  have hx : ∀ h : 1 < (Utf8.encode r).size, ((((Utf8.encode r)[1]'h).toNat : Int)) = bt (Utf8.encode r) 1 := fun h => bt_at _ 1 h
  have hy : ∀ h : 1 < (⟨#[10, 32, 58, 92]⟩ : ByteArray).size, ((((⟨#[10, 32, 58, 92]⟩ : ByteArray)[1]'h).toNat : Int)) = 32 := fun h => rfl
  have hn : ((32 : Int) != bt (Utf8.encode r) 1) = true := bne_iff_ne.mpr (by omega)
  have hi : strings_IndexByte.f ((⟨#[10, 32, 58, 92]⟩ : ByteArray).extract 2 4) (bt (Utf8.encode r) 1) = some (-1) := by
    have hb2 := (bt_range (Utf8.encode r) 1).2
    obtain ⟨n, hn1⟩ := Int.eq_ofNat_of_zero_le (show 0 ≤ bt (Utf8.encode r) 1 by omega)
    rw [hn1]
    have hall : ∀ m : Fin 256, 128 ≤ m.val → Lib.indexByte [58, 92] ((m.val : Int).toNat.toUInt8) = -1 := by decide
    have h5 := hall ⟨n, by omega⟩ (by show 128 ≤ n; omega)
    show some (Lib.indexByte ((⟨#[10, 32, 58, 92]⟩ : ByteArray).extract 2 4).data.toList ((n : Int).toNat.toUInt8)) = some (-1)
    rw [show ((⟨#[10, 32, 58, 92]⟩ : ByteArray).extract 2 4).data.toList = [58, 92] from by decide]
    exact congrArg some h5
  go_quiet (fail)
  go_wp2
  have hw2 : IntKind.i64.wrap 2 = 2 := by decide
  go_quiet (first | (go_at_call 53; refine (strings_IndexByte.calls _ _ _ _ hi).mono ?_; rintro e w' ⟨rfl, ⟨nd, rfl⟩⟩; (try first | exact ⟨rfl, _, World.drewN_drewN _ _ _⟩ | exact ⟨rfl, _, Eq.trans (World.drewN_drewN _ _ _) (congrArg (World.drewN _) (Nat.add_assoc _ _ _))⟩)))
  go_wp2
  dsimp +zetaDelta only [Exit.then, Exit.noGoto, Exit.inBlock]
  go_ret
  exact ⟨rfl, by repeat (first | exact Drawn0.refl _ | apply Drawn0.step)⟩

/-- the four bytes that a backslash may stand before -/
def escI (c : Int) : Bool := c == 10 || c == 32 || c == 58 || c == 92
set_option maxHeartbeats 4000000 in
theorem containsRune_calls (r : Int) (w : World) (h0 : 0 ≤ r) (h1 : r < 256) :
    Calls Try.prog 29 #[.string ⟨#[10, 32, 58, 92]⟩, .int .i32 r] w fun e w' => e = .returned (.bool (escI r)) ∧ Drawn0 w w' := by
  by_cases h2 : r < 128
  · refine (Try.strings_ContainsRune_ascii _ _ _ h0 h2).mono ?_
    rintro e w' ⟨rfl, rfl⟩
    refine ⟨?_, Drawn0.refl _⟩
    obtain ⟨n, rfl⟩ := Int.eq_ofNat_of_zero_le h0
    have hall : ∀ m : Fin 128, decide (0 ≤ Lib.indexByte [10, 32, 58, 92] ((m.val : Int).toNat.toUInt8)) = escI (m.val : Int) := by decide
    have h5 := hall ⟨n, by omega⟩
    exact congrArg (fun b => Ending.returned (.bool b)) h5
  · have he : escI r = false := by unfold escI; simp; omega
    rw [he]
    go_enter Try.func29, Try.ntmps29
    go_wp2_with (first
      | (go_at_call 41; refine (indexRune_high _ _ (by omega) h1).mono ?_; rintro e w' ⟨rfl, ⟨nd, rfl⟩⟩))
    go_ret
    exact ⟨rfl, by repeat (first | exact Drawn0.refl _ | apply Drawn0.step)⟩
end Go.Proofs.Ytahdgaaedilcmaa.P
