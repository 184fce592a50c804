/- strings.Join in the print's form. -/
import Derived.Test.YtpphdmpnnnimdaaShelf
import Derived.Test.YtpphdmpnnnimdaaWMore
import Derived.Lib.Strings
namespace Go.Proofs.Ytpphdmpnnnimdaa.P
open Go.RowKit Go.Proofs.YtpphdmpnnnimdaaW.PrintWords Go.Proofs.YtpphdmpnnnimdaaW.PrintLast Go.Proofs.YtpphdmpnnnimdaaW.PrintMore

/-- strings.Join -/
def strings_Join.f (l0 : List ByteArray) (a1 : ByteArray) : Option ByteArray :=
  if (Lib.join (l0.map (·.data.toList)) a1.data.toList).length ≤ 140737488355328 ∧ l0.length ≤ 140737488355328 then some ⟨(Lib.join (l0.map (·.data.toList)) a1.data.toList).toArray⟩ else none
theorem strings_Join.calls (A0 : Option Addr) (c0 : Nat) (l0 : List ByteArray) (a1 : ByteArray) (r : ByteArray) (w : World) (hr0 : Kd.C Kd.string w A0 l0.length l0) (hc0 : l0.length ≤ c0) (h : strings_Join.f l0 a1 = some r) :
    Calls Try.prog 30 #[.slice A0 l0.length c0, .string a1] w fun e w' => e = .returned (.string r) ∧ Below w.heap.size w w' := by
  unfold strings_Join.f at h
  by_cases hlen : (Lib.join (l0.map (·.data.toList)) a1.data.toList).length ≤ 140737488355328 ∧ l0.length ≤ 140737488355328
  · rw [if_pos hlen] at h
    obtain rfl := Option.some.inj h
    cases l0 with
    | nil => exact (Try.strings_Join_none A0 c0 a1 w).mono fun e w' ⟨he, hw⟩ => ⟨he, hw ▸ Below.refl _ _⟩
    | cons x l =>
      obtain ⟨_, _, h3⟩ := hr0
      obtain ⟨ad, rfl, hcell⟩ := h3 (by simp)
      have hcell' : ∀ (j : Nat) y, (x :: l)[j]? = some y → w.cell? (ad.add j) = some (.string y) := by
        intro j y hj
        obtain ⟨c, _, hR, hc⟩ := hcell j y hj
        have hR' : c = [.string y] := hR
        subst hR'
        have := hc 0 _ rfl
        rwa [show Kd.string.sz = 1 from rfl, Nat.mul_one, Nat.add_zero] at this
      obtain ⟨b, o, sp⟩ := ad
      have h0 := hcell' 0 x rfl
      cases sp with
      | some s => simp [Addr.add, World.cell?] at h0; split at h0 <;> first | cases h0 | (split at h0 <;> cases h0)
      | none =>
        have hlt : b < w.heap.size := World.block_lt_of_cell? w ⟨b, o, none⟩ (by simpa [Addr.add] using h0)
        refine Try.strings_Join b o c0 (x :: l) a1 w (fun j y hj => ?_) hlt hlen.2 hc0 hlen.1
        have := hcell' j y hj
        unfold Addr.add at this
        split at this
        · next h00 => subst h00; exact this
        · exact this
  · rw [if_neg hlen] at h
    cases h
end Go.Proofs.Ytpphdmpnnnimdaa.P
