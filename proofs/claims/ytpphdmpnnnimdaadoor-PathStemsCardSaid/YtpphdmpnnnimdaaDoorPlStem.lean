/- What a pattern is filled with is the stem that is found again, plainly. -/
import Derived.Test.YtpphdmpnnnimdaaDoorPlFill
import Derived.Test.YtpphdmpnnnimdaaDoorPlPath
import Derived.Test.YtpphdmpnnnimdaaDoorPxf8
import Derived.Test.YtpphdmpnnnimdaaDoorPxf12
namespace Go.Proofs.YtpphdmpnnnimdaaDoor.Pl
open Go.RowKit Go.Proofs.YtpphdmpnnnimdaaDoor.P Go.Proofs.YtpphdmpnnnimdaaDoorW.PrintWords Go.Proofs.YtpphdmpnnnimdaaDoorW.PrintLast
set_option linter.unusedSimpArgs false
theorem cut_some (s : ByteArray) (c : UInt8) (hs : s.size ≤ 4611686018427387904) (a b : List UInt8) (ha : c ∉ a) (he : L s = a ++ c :: b) : strings_Cut.f s ⟨#[c]⟩ = some (B a, B b, true) := by
  rcases ib_cases (L s) c with ⟨_, h1⟩ | ⟨i, h1, hl, he', hn⟩
  · exact absurd (he ▸ List.mem_append_right _ List.mem_cons_self) h1
  · have hi : i = a.length := by
      rcases Nat.lt_trichotomy i a.length with hlt | heq | hgt
      · exfalso
        have h2 : (L s)[i]? = some c := by rw [he']; rw [List.getElem?_append_right (by simp [List.length_take]; omega)]; simp [List.length_take]; rw [Nat.min_eq_left (by omega)]; simp
        rw [he, List.getElem?_append_left hlt] at h2
        exact ha (List.mem_of_getElem? h2)
      · exact heq
      · exfalso
        apply hn
        rw [he, List.take_append, List.take_of_length_le (by omega)]
        obtain ⟨m, hm⟩ : ∃ m, i - a.length = m + 1 := ⟨i - a.length - 1, by omega⟩
        rw [hm, List.take_succ_cons]
        exact List.mem_append_right _ List.mem_cons_self
    have hsz := size_L s
    have h3 : strings_Cut.f s ⟨#[c]⟩ = some (s.extract 0 i, s.extract (i + 1) s.size, true) := by
      have h1' : Lib.indexByte s.data.toList c = (i : Int) := h1
      unfold strings_Cut.f stringslite_Cut.f stringslite_Index.f
      rw [if_pos (show (⟨#[c]⟩ : ByteArray).size = 1 from rfl)]
      simp only [show (⟨#[c]⟩ : ByteArray).size = 1 from rfl, show (⟨#[c]⟩ : ByteArray).data.toList.headD 0 = c from rfl, h1', Option.bind_some]
      rw [if_pos (by omega), if_pos (by omega), if_pos (by omega), w64 (by omega) (by omega), if_pos (by omega), if_pos (by omega)]
      simp only [Option.bind_some]
      have e1 : ((i : Int)).toNat = i := by omega
      have e2 : ((i : Int) + ((1 : Nat) : Int)).toNat = i + 1 := by omega
      rw [e1, e2]
    rw [h3]
    congr 2
    · apply L_inj
      rw [L_extract, L_B, he, hi]
      simp
    · congr 1
      apply L_inj
      rw [L_extract, L_B, hsz, he, hi]
      simp only [List.length_append, List.length_cons]
      rw [show a.length + 1 = (a ++ [c]).length from by simp, show a ++ c :: b = (a ++ [c]) ++ b from by simp, List.drop_left]
      exact List.take_of_length_le (by simp; omega)
theorem contains_no (b : List UInt8) (hb : (37 : UInt8) ∉ b) : strings_Contains.f (B b) (⟨#[37]⟩ : ByteArray) = some false := by
  unfold strings_Contains.f strings_Index.f stringslite_Index.f
  rw [if_pos (show (⟨#[37]⟩ : ByteArray).size = 1 from rfl)]
  simp only [Option.bind_some]
  rcases ib_cases b 37 with ⟨h, _⟩ | ⟨i, _, _, h, _⟩
  · rw [show (B b).data.toList = b from L_B b, show (⟨#[37]⟩ : ByteArray).data.toList.headD 0 = 37 from rfl, h]
    rfl
  · exact absurd (h ▸ List.mem_append_right _ List.mem_cons_self) hb
def stem (a b s : List UInt8) : ByteArray × Bool :=
  if s.length ≤ a.length + b.length then (⟨#[]⟩, false) else if s.take a.length = a then (if s.drop (s.length - b.length) = b then (B ((s.drop a.length).take (s.length - b.length - a.length)), true) else (⟨#[]⟩, false)) else (⟨#[]⟩, false)
theorem pathmatch_one (x y : ByteArray) (hx : x.size ≤ 1000000000) (hy : y.size ≤ 1000000000) (a b : List UInt8) (he : L x = a ++ 37 :: b) (ha : (37 : UInt8) ∉ a) (hb : (37 : UInt8) ∉ b) :
    path_Match.f x y = some (stem a b (L y)) := by
  have hsz := size_L x
  have hsy := size_L y
  have hl : (L x).length = a.length + 1 + b.length := by rw [he]; simp; omega
  unfold path_Match.f
  rw [cut_some x 37 (by omega) a b ha he, Option.bind_some, if_pos rfl]
  dsimp only
  have hc := contains_no b hb
  rw [hc, Option.bind_some, if_neg (by simp), size_B, size_B, w64 (x := ((a.length : Nat) : Int) + ((b.length : Nat) : Int)) (by omega) (by omega)]
  unfold stem
  by_cases h1 : (L y).length ≤ a.length + b.length
  · rw [if_pos h1, if_pos (by omega)]
  · rw [if_neg h1, if_neg (by omega)]
    have hp : strings_HasPrefix.f y (B a) = some (decide ((L y).take a.length = a)) := by
      unfold strings_HasPrefix.f stringslite_HasPrefix.f
      rw [size_B, if_pos (by omega), if_pos (by omega), if_pos (by omega)]
      rw [Option.bind_some]
      simp only [toList_L, L_extract, L_B, Int.toNat_natCast]
      rw [List.drop_zero, Nat.sub_zero]
      exact congrArg some (by rw [Bool.eq_iff_iff]; simp)
    have hs : strings_HasSuffix.f y (B b) = some (decide ((L y).drop ((L y).length - b.length) = b)) := by
      unfold strings_HasSuffix.f stringslite_HasSuffix.f
      rw [size_B, if_pos (by omega), w64 (x := (y.size : Int) - ((b.length : Nat) : Int)) (by omega) (by omega), if_pos (by omega), if_pos (by omega)]
      rw [Option.bind_some]
      simp only [toList_L, L_extract, L_B]
      rw [show ((y.size : Int) - ((b.length : Nat) : Int)).toNat = y.size - b.length by omega, hsy, List.take_of_length_le (by simp)]
      exact congrArg some (by rw [Bool.eq_iff_iff]; simp)
    rw [hp, Option.bind_some]
    by_cases h2 : (L y).take a.length = a
    · rw [if_pos h2, if_pos (decide_eq_true h2), hs, Option.bind_some]
      by_cases h3 : (L y).drop ((L y).length - b.length) = b
      · rw [if_pos h3, if_pos (decide_eq_true h3), w64 (x := (y.size : Int) - ((b.length : Nat) : Int)) (by omega) (by omega), if_pos (by omega), if_pos (by omega), if_pos (by omega)]
        congr 2
        apply L_inj
        rw [L_extract, L_B, show ((y.size : Int) - ((b.length : Nat) : Int)).toNat = y.size - b.length by omega, Int.toNat_natCast, hsy]
      · rw [if_neg h3, if_neg (by simpa using h3)]
    · rw [if_neg h2, if_neg (by simpa using h2)]
theorem fill_no : ∀ (s new : List UInt8), (37 : UInt8) ∉ s → fillL s new = s
  | [], _, _ => rfl
  | b :: s, new, h => by
    rw [fillL_cons, if_neg (fun e => h (by rw [e]; exact List.mem_cons_self)), fill_no s new (fun e => h (List.mem_cons_of_mem _ e))]; rfl
theorem fill_app (a b new : List UInt8) : fillL (a ++ b) new = fillL a new ++ fillL b new := by unfold fillL; rw [List.flatMap_append]
theorem fill_pattern {a b : List UInt8} (ha : (37 : UInt8) ∉ a) (hb : (37 : UInt8) ∉ b) (t : List UInt8) : fillL (a ++ 37 :: b) t = a ++ t ++ b := by
  rw [fill_app, fill_no a t ha, fillL_cons, if_pos rfl, fill_no b t hb, List.append_assoc]
theorem stem_full (a b t : List UInt8) : stem a b (a ++ t ++ b) = (B t, decide (t ≠ [])) := by
  unfold stem
  have hl : (a ++ t ++ b).length = a.length + t.length + b.length := by simp [Nat.add_assoc]
  by_cases h : t = []
  · subst h
    rw [if_pos (by rw [hl]; simp)]
    rfl
  · have hp : 0 < t.length := List.length_pos_iff.2 h
    rw [if_neg (by rw [hl]; omega), if_pos (by rw [List.append_assoc, List.take_left]), if_pos (by rw [hl, show a.length + t.length + b.length - b.length = (a ++ t).length by simp, List.drop_left]), hl,
      show a.length + t.length + b.length - b.length - a.length = t.length by omega, List.append_assoc, List.drop_left, List.take_left, decide_eq_true h]
theorem stem_any (a b y : List UInt8) : ((stem a b y).2 = false ∧ (stem a b y).1 = ⟨#[]⟩) ∨ ((stem a b y).2 = true ∧ (stem a b y).1 ≠ ⟨#[]⟩ ∧ a ++ L (stem a b y).1 ++ b = y) := by
  unfold stem
  by_cases h1 : y.length ≤ a.length + b.length
  · rw [if_pos h1]; exact .inl ⟨rfl, rfl⟩
  · rw [if_neg h1]
    by_cases h2 : y.take a.length = a
    · rw [if_pos h2]
      by_cases h3 : y.drop (y.length - b.length) = b
      · rw [if_pos h3]
        refine .inr ⟨rfl, fun e => ?_, ?_⟩
        · have h4 := congrArg (fun s => (L s).length) e
          simp only [L_B] at h4
          have h5 : ((y.drop a.length).take (y.length - b.length - a.length)).length = y.length - b.length - a.length := by
            rw [List.length_take, List.length_drop]; omega
          rw [h5] at h4
          have h6 : (L (⟨#[]⟩ : ByteArray)).length = 0 := rfl
          omega
        · show a ++ L (B _) ++ b = y
          rw [L_B]
          have e1 : y = y.take a.length ++ y.drop a.length := (List.take_append_drop _ _).symm
          have e2 : y.drop a.length = (y.drop a.length).take (y.length - b.length - a.length) ++ (y.drop a.length).drop (y.length - b.length - a.length) := (List.take_append_drop _ _).symm
          have e3 : (y.drop a.length).drop (y.length - b.length - a.length) = b := by
            rw [List.drop_drop, show a.length + (y.length - b.length - a.length) = y.length - b.length by omega, h3]
          rw [e3] at e2
          rw [h2, e2] at e1
          rw [List.append_assoc]
          exact e1.symm
      · rw [if_neg h3]; exact .inl ⟨rfl, rfl⟩
    · rw [if_neg h2]; exact .inl ⟨rfl, rfl⟩
end Go.Proofs.YtpphdmpnnnimdaaDoor.Pl
