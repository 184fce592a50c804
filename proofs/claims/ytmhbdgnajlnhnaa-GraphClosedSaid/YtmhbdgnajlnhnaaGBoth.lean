/- both: two rows as one rising list. -/
import Derived.Test.YtmhbdgnajlnhnaaGGrow
import Derived.Test.YtmhbdgnajlnhnaaPlCyc
namespace Go.Proofs.Ytmhbdgnajlnhnaa.P
open Go.RowKit Go.Maps Go.MapKept Go.ChangeMaps Go.Proofs.YtmhbdgnajlnhnaaW.PrintWords Go.Proofs.YtmhbdgnajlnhnaaW.PrintLast Go.Proofs.YtmhbdgnajlnhnaaW.PrintMore Go.Proofs.Ytmhbdgnajlnhnaa.Pl
set_option linter.unusedVariables false
set_option linter.unusedSimpArgs false
set_option maxRecDepth 1000000 in
set_option maxHeartbeats 1000000 in
theorem both_calls {w : World} (A2 : Option Addr) (c2 : Nat) (l2 : List ByteArray) (A3 : Option Addr) (c3 : Nat) (l3 : List ByteArray) (h2 : Kd.string.C w A2 l2.length l2) (h3 : Kd.string.C w A3 l3.length l3) (s2 : l2.length ≤ 100000) (s3 : l3.length ≤ 100000) :
    Calls Try.prog 41 #[.slice A2 l2.length c2, .slice A3 l3.length c3] w fun e w' => ∃ v, e = .returned v ∧ Kd.R Kd.string 9 w' w.heap.size (fun _ => True) v (srt (l2 ++ l3)) ∧ Below w.heap.size w w' := by
  obtain ⟨w1, hw1⟩ : ∃ w1, w.alloc (.cells #[.slice A2 l2.length c2, .slice A3 l3.length c3] 23) = w1 := ⟨_, rfl⟩
  have hb : Below w.heap.size w w1 := by rw [← hw1]; exact below_alloc (Below.refl _ w) _
  have hcc := concat_calls (w := w1) w.heap.size A2 c2 l2 A3 c3 l3 (by rw [← hw1]; exact alloc_new) (Kd.C_below h2 hb) (Kd.C_below h3 hb) s2 s3
  have HB := Aside0.mk hb
  clear hb h2 h3
  go_enter Try.func41, Try.ntmps41
  go_wp2_with fail
  try rw [hw1]
  refine hcc.mono ?_
  rintro e w2 ⟨v2, rfl, hR2, hB2⟩
  clear hcc hw1
  have hsl := sort_calls hR2 (by rw [List.length_append]; omega)
  have H2 := Aside0.mk (And.intro hR2 hB2)
  clear hR2 hB2
  go_wp2_with fail
  refine hsl.mono ?_
  rintro e w3 ⟨rfl, hR3, hg3⟩
  clear hsl
  have hB3 := below_sorted H2.out.2 H2.out.1 hg3
  have hcl := compact_calls hR3 (by rw [List.length_append]; omega)
  have H3 := Aside0.mk (And.intro hR3 hB3)
  clear hR3 hB3 hg3 H2
  go_wp2_with fail
  refine hcl.mono ?_
  rintro e w4 ⟨v4, rfl, hR4, hg4⟩
  clear hcl
  have hB4 := below_sorted H3.out.2 H3.out.1 hg4
  have H4 : Aside0 (Kd.R Kd.string 9 w4 w.heap.size (fun _ => True) v4 (srt (l2 ++ l3)) ∧ Below w.heap.size w w4) := ⟨Kd.R_lower hR4 HB.out.size, HB.out.trans (hB4.mono HB.out.size)⟩
  clear hR4 hg4 hB4 H3
  go_wp2_with fail
  go_ret
  exact ⟨_, rfl, H4.out⟩
end Go.Proofs.Ytmhbdgnajlnhnaa.P
