/- DepfileNames, plainly: the limit, at it and one past it; texts that go wrong at their end. -/
import Derived.Test.YtahdgaaedilcmaaPlDepU
import Derived.Test.YtahdgaaedilcmaaPxf5
namespace Go.Proofs.Ytahdgaaedilcmaa.Pure
open Go.RowKit Go.Proofs.Ytahdgaaedilcmaa.P Go.Proofs.Ytahdgaaedilcmaa.Pl Go.Proofs.YtahdgaaedilcmaaW.PrintWords Go.Proofs.YtahdgaaedilcmaaW.PrintLast

theorem go_blanks : ∀ (n : Nat) (i : Int), go (List.replicate n 32) i [] z32 ⟨#[]⟩ false false false = ([], 0, 0)
  | 0, _ => rfl
  | n + 1, i => by
    rw [List.replicate_succ]
    have h : ∀ t : List UInt8, go (32 :: t) i [] z32 ⟨#[]⟩ false false false = go t (i + 1) [] z32 ⟨#[]⟩ false false false := fun t => by
      rw [go.eq_def]
      rfl
    rw [h]
    exact go_blanks n (i + 1)
theorem parse_low (d : UInt8) (hd : d ≠ 10) (hl : d.toNat < 32) (t : List UInt8) (ht : t.length < 100) : parse (97 :: d :: t) = ([], 6, 1) := by
  unfold parse
  rw [if_neg (by simp; omega)]
  have h : go (97 :: d :: t) 0 [] z32 ⟨#[]⟩ false false false = go (d :: t) 1 [] z32 ((⟨#[]⟩ : ByteArray) ++ B [97]) true false false := rfl
  rw [h, go.eq_def]
  dsimp only
  rw [if_neg hd, if_pos hl]
theorem set_rep (i n : Nat) : (List.replicate i (32 : Int) ++ List.replicate (n + 1) 0).set i 32 = List.replicate (i + 1) 32 ++ List.replicate n 0 := by
  rw [List.set_append_right _ _ (by simp)]
  rw [List.length_replicate, Nat.sub_self, List.replicate_succ, List.set_cons_zero, List.replicate_succ' (n := i), List.append_assoc]
  rfl
theorem l1_ev : ∀ (d c : Nat), c + d = 32 → Ev (fun k => brickyardlaw16_DepfileNames.l1 k [] [] [⟨B [97], []⟩] (c : Int) 0 0 3 32768 6 1 6 4 0 0) true := by
  intro d
  induction d with
  | zero =>
    intro c hc
    refine ev_succ ?_
    simp only [brickyardlaw16_DepfileNames.l1]
    refine ev_ite_neg (by omega) (ev_const ?_)
    rfl
  | succ d ih =>
    intro c hc
    refine ev_succ ?_
    simp only [brickyardlaw16_DepfileNames.l1]
    have e1 : (strOfNums [(c : Int)]).size = 1 := by rw [strOfNums_size]; rfl
    have e2 : L (((⟨#[97]⟩ : ByteArray) ++ (strOfNums [(c : Int)])) ++ (⟨#[98, 58, 32, 99]⟩ : ByteArray)) = 97 :: UInt8.ofNat c :: [98, 58, 32, 99] := by
      rw [L_append, L_append]; rfl
    have next : Ev (fun k => brickyardlaw16_DepfileNames.l1 k [] [] [⟨B [97], []⟩] (((c : Int) + 1) % 256) 0 0 3 32768 6 1 6 4 0 0) true := by
      rw [show ((c : Int) + 1) % 256 = ((c + 1 : Nat) : Int) by omega]
      exact ih (c + 1) (by omega)
    have hp := parse_ev (((⟨#[97]⟩ : ByteArray) ++ (strOfNums [(c : Int)])) ++ (⟨#[98, 58, 32, 99]⟩ : ByteArray))
    rw [e2] at hp
    refine ev_ite_pos (by omega) (ev_bind (ev_const rfl) (ev_ite_pos (by rw [e1]; decide) (ev_ite_pos (by rw [ByteArray.size_append, e1]; decide) (ev_bind hp ?_))))
    by_cases h10 : (c : Int) = 10
    · exact ev_ite_pos h10 next
    · refine ev_ite_neg h10 ?_
      have hn : (UInt8.ofNat c).toNat = c := by rw [UInt8.toNat_ofNat']; omega
      rw [parse_low (UInt8.ofNat c) (fun e => h10 (by have := congrArg UInt8.toNat e; rw [hn] at this; rw [this]; rfl)) (by rw [hn]; omega) _ (by decide)]
      exact ev_ite_pos rfl (ev_ite_neg (by decide) next)
/-- YOURS -/
theorem DepfileNames : brickyardlaw16_DepfileNames.Pure := by
  apply ev_some
  unfold brickyardlaw16_DepfileNames.f
  obtain ⟨M, hM⟩ : ∃ M : Nat, M = 32768 := ⟨_, rfl⟩
  rw [← hM]
  refine ev_bind works_ev (ev_ite_pos rfl (ev_ite_pos (by omega) (ev_bind (ev_const rfl) ?_)))
  rw [List.length_replicate]
  have hl : ∀ (d i : Nat), i + d = M → Ev (fun k => brickyardlaw16_DepfileNames.l0 k (List.replicate i 32 ++ List.replicate d 0) (M : Int) (i : Int)) true := by
    intro d
    induction d with
    | zero =>
      intro i hi
      refine ev_succ ?_
      simp only [brickyardlaw16_DepfileNames.l0]
      refine ev_ite_neg (by omega) ?_
      rw [show List.replicate i (32 : Int) ++ List.replicate 0 0 = List.replicate i 32 by simp]
      have eL : L (strOfNums (List.replicate i 32)) = List.replicate i 32 := by
        show (strOfNums (List.replicate i 32)).data.toList = _
        rw [strOfNums_data, List.map_replicate]; rfl
      have eS : (strOfNums (List.replicate i 32)).size = i := by rw [strOfNums_size, List.length_replicate]
      have p1 := parse_ev (strOfNums (List.replicate i 32))
      rw [eL, show parse (List.replicate i 32) = ([], 0, 0) by unfold parse; rw [if_neg (by rw [List.length_replicate]; omega)]; exact go_blanks _ _] at p1
      have p2 := parse_ev ((strOfNums (List.replicate i 32)) ++ (⟨#[32]⟩ : ByteArray))
      rw [L_append, eL, show parse (List.replicate i 32 ++ L (⟨#[32]⟩ : ByteArray)) = ([], 3, 32768) by unfold parse; rw [if_pos (by rw [List.length_append, List.length_replicate]; show 32768 < i + 1; omega)]] at p2
      have p3 := parse_ev (⟨#[97]⟩ : ByteArray)
      have p4 := parse_ev (⟨#[97, 58, 32, 98, 92]⟩ : ByteArray)
      have p5 := parse_ev (⟨#[97, 58]⟩ : ByteArray)
      refine ev_bind p1 (ev_ite_pos (by rw [eS]; omega) (ev_bind p2 (ev_bind p3 (ev_bind p4 (ev_bind p5 ?_)))))
      exact l1_ev 32 0 rfl
    | succ d ih =>
      intro i hi
      refine ev_succ ?_
      simp only [brickyardlaw16_DepfileNames.l0]
      refine ev_ite_pos (by omega) (ev_ite_pos (by omega) (ev_ite_pos (by simp; omega) ?_))
      rw [Int.toNat_natCast, set_rep, show wrap64 ((i : Int) + 1) = ((i + 1 : Nat) : Int) by rw [w64 (by omega) (by omega)]; rfl]
      exact ih (i + 1) (by omega)
  exact hl M 0 (by omega)
end Go.Proofs.Ytahdgaaedilcmaa.Pure
