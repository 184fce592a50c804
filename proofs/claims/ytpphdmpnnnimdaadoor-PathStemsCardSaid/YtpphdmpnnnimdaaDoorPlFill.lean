/- A pattern filled with a stem, plainly. -/
import Derived.Test.YtpphdmpnnnimdaaDoorPlBase
import Derived.Test.YtpphdmpnnnimdaaDoorPxf7
import Derived.Lib.Replace
import Derived.Lib.CountLaws
namespace Go.Proofs.YtpphdmpnnnimdaaDoor.Pl
open Go.RowKit Go.Proofs.YtpphdmpnnnimdaaDoorW.PrintWords Go.Proofs.YtpphdmpnnnimdaaDoor.P
set_option linter.unusedSimpArgs false
def fillL (s new : List UInt8) : List UInt8 := s.flatMap fun b => if b = 37 then new else [b]
theorem fillL_nil (new : List UInt8) : fillL [] new = [] := rfl
theorem fillL_cons (b : UInt8) (s new : List UInt8) : fillL (b :: s) new = (if b = 37 then new else [b]) ++ fillL s new := rfl
theorem index_nil : Lib.index [] [37] = -1 := rfl
theorem index_hit (s : List UInt8) : Lib.index (37 :: s) [37] = 0 := by unfold Lib.index; simp
theorem index_skip {b : UInt8} (h : b ≠ 37) (s : List UInt8) : Lib.index (b :: s) [37] = if Lib.index s [37] = -1 then -1 else Lib.index s [37] + 1 := by
  rw [Lib.index]
  have : ([37] : List UInt8).isPrefixOf (b :: s) = false := by
    simp [List.isPrefixOf, Ne.symm h]
  rw [this]
  simp
theorem rep_skip {b : UInt8} (h : b ≠ 37) (new : List UInt8) (k : Nat) (s : List UInt8) : Lib.replaceK [37] new k (b :: s) = b :: Lib.replaceK [37] new k s := by
  cases k with
  | zero => rfl
  | succ k =>
    rw [Lib.replaceK, Lib.replaceK, index_skip h]
    have hge := Lib.index_ge s [37]
    by_cases hm : Lib.index s [37] = -1
    · rw [if_pos hm, hm]; rfl
    · rw [if_neg hm, if_neg (by simp; omega), if_neg (by simpa using hm)]
      obtain ⟨i, hi⟩ : ∃ i : Nat, Lib.index s [37] = i := ⟨(Lib.index s [37]).toNat, by omega⟩
      rw [hi, show ((i : Int) + 1).toNat = i + 1 by omega, Int.toNat_natCast, show i + 1 + [(37 : UInt8)].length = (i + [(37 : UInt8)].length) + 1 by omega, List.drop_succ_cons, List.take_succ_cons]
      rfl
theorem rep_hit (new : List UInt8) (k : Nat) (s : List UInt8) : Lib.replaceK [37] new (k + 1) (37 :: s) = new ++ Lib.replaceK [37] new k s := by
  rw [Lib.replaceK_hit [37] new k (37 :: s) 0 (index_hit s)]
  rfl
theorem count_skip {b : UInt8} (h : b ≠ 37) (s : List UInt8) : Lib.count (b :: s) [37] = Lib.count s [37] := by
  have hge := Lib.index_ge s [37]
  have hs := index_skip h s
  by_cases hm : Lib.index s [37] = -1
  · rw [if_pos hm] at hs
    rw [Lib.count_miss hm, Lib.count_miss hs]
  · rw [if_neg hm] at hs
    obtain ⟨i, hi⟩ : ∃ i : Nat, Lib.index s [37] = i := ⟨(Lib.index s [37]).toNat, by omega⟩
    rw [Lib.count_hit (by simp) hi, Lib.count_hit (i := i + 1) (by simp) (by rw [hs, hi]; rfl), show i + 1 + [(37 : UInt8)].length = (i + [(37 : UInt8)].length) + 1 by omega, List.drop_succ_cons]
theorem count_one (s : List UInt8) : Lib.count (37 :: s) [37] = 1 + Lib.count s [37] := by
  rw [Lib.count_hit (i := 0) (by simp) (index_hit s)]
  rfl
theorem rep_fill (new : List UInt8) : ∀ s : List UInt8, Lib.replaceK [37] new (Lib.count s [37]) s = fillL s new
  | [] => by rw [Lib.count_miss index_nil]; rfl
  | b :: s => by
    by_cases h : b = 37
    · subst h
      rw [count_one, Nat.add_comm, rep_hit, rep_fill new s, fillL_cons, if_pos rfl]
    · rw [count_skip h, rep_skip h, rep_fill new s, fillL_cons, if_neg h]; rfl
theorem fill_same : ∀ s : List UInt8, fillL s [37] = s
  | [] => rfl
  | b :: s => by
    rw [fillL_cons, fill_same s]
    by_cases h : b = 37
    · rw [if_pos h, h]; rfl
    · rw [if_neg h]; rfl
theorem replaceAll_fill (s new : List UInt8) : Lib.replaceAll s [37] new = fillL s new := by
  unfold Lib.replaceAll Lib.replace
  split
  · rename_i h
    have h := beq_iff_eq.1 h
    rw [← h, fill_same]
  · have : Lib.replaceNum s [37] (-1) = Lib.count s [37] := by unfold Lib.replaceNum; rw [if_pos (.inl (by decide))]
    rw [this, rep_fill]
theorem fill_len (new : List UInt8) (n : Nat) (hn : new.length ≤ n) (hn1 : 1 ≤ n) : ∀ s : List UInt8, (fillL s new).length ≤ s.length * n
  | [] => Nat.zero_le _
  | b :: s => by
    have ih := fill_len new n hn hn1 s
    rw [fillL_cons, List.length_append, List.length_cons, Nat.succ_mul]
    split
    · omega
    · simp; omega
theorem numsF_B (l : List UInt8) : strOfNums (l.map (fun b => (b.toNat : Int))) = B l := by
  unfold strOfNums B
  congr 1
  rw [List.map_map]
  congr 1
  have : ((fun n : Int => UInt8.ofNat n.toNat) ∘ fun b : UInt8 => (b.toNat : Int)) = id := by
    funext b
    simp
  first | rw [this, List.map_id] | simp
theorem fill_ev (s new : ByteArray) (hs : s.size ≤ 1000) (hn : new.size ≤ 1000) : Ev (fun k => brickyardref09_Fill.f k s new) (B (fillL (L s) (L new))) := by
  unfold brickyardref09_Fill.f
  have hsz := size_L s
  have key : ∀ d i : Nat, i + d = (L s).length → ∀ acc : List UInt8, acc.length ≤ i * 1001 → Ev (fun k => brickyardref09_Fill.l0 k s new (acc.map (fun b => (b.toNat : Int))) (i : Int)) (B (acc ++ fillL ((L s).drop i) (L new))) := by
    intro d
    induction d with
    | zero =>
      intro i hi acc ha
      refine ev_succ ?_
      simp only [brickyardref09_Fill.l0]
      refine ev_ite_neg (by omega) (ev_const ?_)
      rw [numsF_B, List.drop_of_length_le (by omega), fillL_nil, List.append_nil]
    | succ d ih =>
      intro i hi acc ha
      have hlt : i < (L s).length := by omega
      have hb := bt_L s i hlt
      have e37 := u8_eq ((L s)[i]) 37 (by decide)
      rw [← hb] at e37
      have e1 : Aside0 (wrap64 ((i : Int) + 1) = ((i + 1 : Nat) : Int)) := ⟨by rw [w64 (by omega) (by omega)]; rfl⟩
      refine ev_succ ?_
      simp only [brickyardref09_Fill.l0]
      rw [drop_cons hlt, fillL_cons, e1.out]
      refine ev_ite_pos (by omega) (ev_ite_pos (by omega) ?_)
      by_cases h : (L s)[i] = 37
      · refine ev_ite_pos (e37.2 h) (ev_ite_pos (by rw [List.length_map]; omega) ?_)
        rw [if_pos h, ← List.append_assoc]
        have := ih (i + 1) (by omega) (acc ++ L new) (by rw [List.length_append, ← size_L]; omega)
        rw [List.map_append] at this
        exact this
      · refine ev_ite_neg (fun e => h (e37.1 e)) (ev_ite_pos (by rw [List.length_map]; omega) ?_)
        rw [if_neg h, ← List.append_assoc]
        have := ih (i + 1) (by omega) (acc ++ [(L s)[i]]) (by rw [List.length_append]; simp; omega)
        rw [List.map_append] at this
        rw [hb]
        exact this
  have := key (L s).length 0 (Nat.zero_add _) [] (Nat.zero_le _)
  rw [List.drop_zero] at this
  exact this
end Go.Proofs.YtpphdmpnnnimdaaDoor.Pl
