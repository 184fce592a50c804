/- The limits of paths, at them and one past them, are as the statement says. Closed; no condition. -/
import Derived.Test.YtpphdmpnnnimdaaPlPathC
import Derived.Test.YtpphdmpnnnimdaaPxf5
namespace Go.Proofs.Ytpphdmpnnnimdaa.Pure
open Go.RowKit Go.Proofs.Ytpphdmpnnnimdaa.P Go.Proofs.YtpphdmpnnnimdaaW.PrintWords Go.Proofs.YtpphdmpnnnimdaaW.PrintLast Go.Proofs.Ytpphdmpnnnimdaa.Pl

theorem L_lit (l : List UInt8) : L (⟨l.toArray⟩ : ByteArray) = l := L_B l
theorem names_l0 {r : Bool} (hr : Ev (fun k => brickyardlaw09_PathNames.l0 k (B (List.replicate 32 97)) 32) r) : ∀ d i : Nat, i + d = 32 →
    Ev (fun k => brickyardlaw09_PathNames.l0 k (B (List.replicate i 97)) (i : Int)) r := by
  intro d
  induction d with
  | zero => intro i hi; rw [show i = 32 by omega]; exact hr
  | succ d ih =>
    intro i hi
    have e := ih (i + 1) (by omega)
    refine ev_succ ?_
    simp only [brickyardlaw09_PathNames.l0]
    refine ev_ite_pos (by omega) (ev_ite_pos (by rw [size_B, List.length_replicate]; omega) ?_)
    rw [wsucc (by omega), show B (List.replicate i 97) ++ (⟨#[97]⟩ : ByteArray) = B (List.replicate (i + 1) 97) from L_inj (by rw [L_append, L_B, L_B, List.replicate_succ']; rfl)]
    exact e
theorem PathNames : brickyardlaw09_PathNames.Pure := by
  have hw : ∀ k, brickyardlaw09_PathNames.l0 k (⟨#[]⟩ : ByteArray) 0 = some true → brickyardlaw09_PathNames.f k = some true := by
    intro k hk
    unfold brickyardlaw09_PathNames.f
    rw [show brickyardlaw09_works.f = some true from rfl, Option.bind_some, if_pos rfl]
    exact hk
  suffices h : Ev (fun k => brickyardlaw09_PathNames.l0 k (⟨#[]⟩ : ByteArray) 0) true by
    obtain ⟨k, hk⟩ := Ev.rounds h
    exact ⟨k, hw k hk⟩
  refine names_l0 ?_ 32 0 (by omega)
  refine ev_succ ?_
  simp only [brickyardlaw09_PathNames.l0]
  have e1 : B (List.replicate 32 97) ++ (⟨#[47]⟩ : ByteArray) ++ (B (List.replicate 32 97)).extract 0 27 = B (List.replicate 32 97 ++ 47 :: List.replicate 27 97) := by
    apply L_inj
    rw [L_append, L_append, L_extract, L_B, L_B]
    rfl
  have e2 : B (List.replicate 32 97 ++ 47 :: List.replicate 27 97) ++ (⟨#[97]⟩ : ByteArray) = B (List.replicate 32 97 ++ 47 :: List.replicate 28 97) := by
    apply L_inj
    rw [L_append, L_B, L_B]
    rfl
  have e3 : B (List.replicate 32 97) ++ (⟨#[97]⟩ : ByteArray) = B (List.replicate 33 97) := by
    apply L_inj
    rw [L_append, L_B, L_B]
    rfl
  rw [e1, e2, e3]
  have n1 := pathnorm_ev (B (List.replicate 32 97 ++ 47 :: List.replicate 28 97)) (by rw [size_B]; decide)
  have n2 := pathnorm_ev (B (List.replicate 32 97 ++ 47 :: List.replicate 27 97)) (by rw [size_B]; decide)
  have i1 := is_ev (B (List.replicate 32 97))
  have i2 := is_ev (B (List.replicate 33 97))
  have i3 := is_ev (B (List.replicate 32 97 ++ 47 :: List.replicate 27 97))
  have i4 := is_ev (B (List.replicate 32 97 ++ 47 :: List.replicate 28 97))
  rw [L_B] at n1 n2 i1 i2 i3 i4
  rw [show normL (List.replicate 32 97 ++ 47 :: List.replicate 28 97) = ([], 3) by decide +kernel] at n1
  rw [show normL (List.replicate 32 97 ++ 47 :: List.replicate 27 97) = (List.replicate 32 97 ++ 47 :: List.replicate 27 97, 0) by decide +kernel] at n2
  rw [show isL (List.replicate 32 97) = true by decide +kernel] at i1
  rw [show isL (List.replicate 33 97) = false by decide +kernel] at i2
  rw [show isL (List.replicate 32 97 ++ 47 :: List.replicate 27 97) = true by decide +kernel] at i3
  rw [show isL (List.replicate 32 97 ++ 47 :: List.replicate 28 97) = false by decide +kernel] at i4
  have s1 : (B (List.replicate 32 97)).size = 32 := by rw [size_B]; rfl
  have s2 : (B (List.replicate 32 97 ++ 47 :: List.replicate 27 97)).size = 60 := by rw [size_B]; rfl
  have s3 : (B (List.replicate 32 97) ++ (⟨#[47]⟩ : ByteArray)).size = 33 := by rw [size_L, L_append, L_B]; rfl
  have s4 : ((B (List.replicate 32 97)).extract 0 27).size = 27 := by rw [size_L, L_extract, L_B]; rfl
  refine ev_ite_neg (by omega) (ev_ite_pos (by omega) (ev_ite_pos (by omega) (ev_ite_pos (by omega) (ev_ite_pos (by omega) (ev_ite_pos (by omega) ?_)))))
  refine ev_bind n1 (ev_bind n2 (ev_bind i1 (ev_ite_pos rfl (ev_bind i2 (ev_ite_neg (by simp) (ev_ite_pos (by omega) (ev_bind i3 (ev_ite_pos rfl (ev_bind i4 (ev_ite_neg (by simp) (ev_ite_pos rfl (ev_ite_pos rfl (ev_const rfl)))))))))))))

end Go.Proofs.Ytpphdmpnnnimdaa.Pure
