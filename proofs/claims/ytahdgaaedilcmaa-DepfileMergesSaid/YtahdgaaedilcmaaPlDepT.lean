/- Depfiles, plainly: two texts, one behind the other. -/
import Derived.Test.YtahdgaaedilcmaaPlDep
namespace Go.Proofs.Ytahdgaaedilcmaa.Pl
open Go.RowKit Go.Proofs.Ytahdgaaedilcmaa.P Go.Proofs.YtahdgaaedilcmaaW.PrintWords Go.Proofs.YtahdgaaedilcmaaW.PrintLast Go.Proofs.YtahdgaaedilcmaaW.PrintMore

/-- a text whose end does not reach over what follows: its last backslashes come in pairs -/
def okT : List UInt8 → Prop
  | [] => True
  | c :: t => if c = 92 then (match t with | [] => False | _ :: t' => okT t') else okT t
/-- what is told, other rules ahead of it -/
def ahead (o : List S32) (r : List S32 × Int × Int) : List S32 × Int × Int := if r.2.1 = 0 then (o ++ r.1, r.2.1, r.2.2) else r
/-- a wrong place, further on -/
def later (n : Int) (r : List S32 × Int × Int) : List S32 × Int × Int := if r.2.1 = 0 then r else (r.1, r.2.1, r.2.2 + n)
/-- rules that are there already stand ahead; a place is told from the beginning -/
theorem go_ahead : ∀ (n : Nat) (l : List UInt8), l.length ≤ n → ∀ (i j : Int) (o out : List S32) (rule : S32) (word : ByteArray) (inn tgt col : Bool),
    go l (i + j) (o ++ out) rule word inn tgt col = later j (ahead o (go l i out rule word inn tgt col)) := by
  intro n
  induction n with
  | zero =>
    intro l hl i j o out rule word inn tgt col
    obtain rfl := List.eq_nil_of_length_eq_zero (Nat.le_zero.1 hl)
    simp only [go]
    split
    · split
      · simp [ahead, later]
      · simp [ahead, later]
    · simp [ahead, later]
  | succ n ih =>
    intro l hl i j o out rule word inn tgt col
    cases l with
    | nil => exact ih [] (by simp) i j o out rule word inn tgt col
    | cons c t =>
      have ht : t.length ≤ n := by simp at hl; omega
      have w6 : ∀ x : Int, later j (ahead o ([], 6, x)) = ([], 6, x + j) := fun x => by simp [ahead, later]
      have e : i + j + 1 = (i + 1) + j := by omega
      have e2 : i + j + 1 + 1 = (i + 1 + 1) + j := by omega
      rw [go.eq_def, go.eq_def (c :: t) i]
      dsimp only
      split
      · split
        · split
          · exact (w6 _).symm
          · rw [List.append_assoc, e]; exact ih t ht ..
        · rw [e]; exact ih t ht ..
      split
      · exact (w6 _).symm
      split
      · rw [e]; exact ih t ht ..
      split
      · split
        · exact (w6 _).symm
        · rw [e]; exact ih t ht ..
      split
      · cases t with
        | nil => exact (w6 _).symm
        | cons d t' =>
          dsimp only
          split
          · exact (w6 _).symm
          split
          · rw [e2]; exact ih t' (by simp at ht; omega) ..
          split
          · exact (w6 _).symm
          · rw [e2]; exact ih t' (by simp at ht; omega) ..
      split
      · exact (w6 _).symm
      · rw [e]; exact ih t ht ..
/-- a step: a wrong place; a byte is read; or two are -/
theorem go_view (c : UInt8) (t : List UInt8) (rule : S32) (word : ByteArray) (inn tgt col : Bool) :
    (∀ s i out, go (c :: (t ++ s)) i out rule word inn tgt col = ([], 6, i)) ∨
    (c ≠ 92 ∧ ∃ (ext : List S32) (rule' : S32) (word' : ByteArray) (inn' tgt' col' : Bool), ext.length ≤ 1 ∧ (rule'.f1.length ≤ rule.f1.length + 1 ∧ ∀ r ∈ ext, r.f1.length ≤ rule.f1.length + 1) ∧ ∀ s i out, go (c :: (t ++ s)) i out rule word inn tgt col = go (t ++ s) (i + 1) (out ++ ext) rule' word' inn' tgt' col') ∨
    (c = 92 ∧ t = []) ∨
    (c = 92 ∧ ∃ d t', t = d :: t' ∧ ∃ (rule' : S32) (word' : ByteArray) (inn' tgt' col' : Bool), rule'.f1.length ≤ rule.f1.length + 1 ∧ ∀ s i out, go (c :: (t ++ s)) i out rule word inn tgt col = go (t' ++ s) (i + 1 + 1) out rule' word' inn' tgt' col') := by
  by_cases c10 : c = 10
  · have hn : c ≠ 92 := by rw [c10]; decide
    by_cases ct : closeTgt inn tgt col = true
    · by_cases cc : col = false
      · exact .inl fun s i out => by rw [go.eq_def]; dsimp only; rw [if_pos c10, if_pos ct, if_pos cc]
      · exact .inr (.inl ⟨hn, [closeRule rule word inn col], z32, ⟨#[]⟩, false, false, false, by simp, ⟨by simp [z32], fun r hr => by rw [List.mem_singleton.1 hr]; exact closeRule_len ..⟩, fun s i out => by rw [go.eq_def]; dsimp only; rw [if_pos c10, if_pos ct, if_neg cc]⟩)
    · exact .inr (.inl ⟨hn, [], z32, ⟨#[]⟩, false, false, false, by simp, ⟨by simp [z32], by simp⟩, fun s i out => by rw [go.eq_def]; dsimp only; rw [if_pos c10, if_neg ct, List.append_nil]⟩)
  by_cases cl : c.toNat < 32
  · exact .inl fun s i out => by rw [go.eq_def]; dsimp only; rw [if_neg c10, if_pos cl]
  by_cases c32 : c = 32
  · have hn : c ≠ 92 := by rw [c32]; decide
    exact .inr (.inl ⟨hn, [], closeRule rule word inn col, ⟨#[]⟩, false, closeTgt inn tgt col, col, by simp, ⟨closeRule_len .., by simp⟩, fun s i out => by rw [go.eq_def]; dsimp only; rw [if_neg c10, if_neg cl, if_pos c32, List.append_nil]⟩)
  by_cases c58 : c = 58
  · have hn : c ≠ 92 := by rw [c58]; decide
    by_cases cw : closeTgt inn tgt col = false ∨ col = true
    · exact .inl fun s i out => by rw [go.eq_def]; dsimp only; rw [if_neg c10, if_neg cl, if_neg c32, if_pos c58, if_pos cw]
    · exact .inr (.inl ⟨hn, [], closeRule rule word inn col, ⟨#[]⟩, false, closeTgt inn tgt col, true, by simp, ⟨closeRule_len .., by simp⟩, fun s i out => by rw [go.eq_def]; dsimp only; rw [if_neg c10, if_neg cl, if_neg c32, if_pos c58, if_neg cw, List.append_nil]⟩)
  by_cases c92 : c = 92
  · cases t with
    | nil => exact .inr (.inr (.inl ⟨c92, rfl⟩))
    | cons d t' =>
      by_cases ce : escB d = false
      · exact .inl fun s i out => by rw [go.eq_def]; dsimp only [List.cons_append]; rw [if_neg c10, if_neg cl, if_neg c32, if_neg c58, if_pos c92, if_pos ce]
      by_cases cd : d = 10
      · exact .inr (.inr (.inr ⟨c92, d, t', rfl, closeRule rule word inn col, ⟨#[]⟩, false, closeTgt inn tgt col, col, closeRule_len .., fun s i out => by rw [go.eq_def]; dsimp only [List.cons_append]; rw [if_neg c10, if_neg cl, if_neg c32, if_neg c58, if_pos c92, if_neg ce, if_pos cd]⟩))
      by_cases cw : inn = false ∧ tgt = true ∧ col = false
      · exact .inl fun s i out => by rw [go.eq_def]; dsimp only [List.cons_append]; rw [if_neg c10, if_neg cl, if_neg c32, if_neg c58, if_pos c92, if_neg ce, if_neg cd, if_pos cw]
      · exact .inr (.inr (.inr ⟨c92, d, t', rfl, rule, word ++ B [d], true, tgt, col, Nat.le_succ _, fun s i out => by rw [go.eq_def]; dsimp only [List.cons_append]; rw [if_neg c10, if_neg cl, if_neg c32, if_neg c58, if_pos c92, if_neg ce, if_neg cd, if_neg cw]⟩))
  by_cases cw : inn = false ∧ tgt = true ∧ col = false
  · exact .inl fun s i out => by rw [go.eq_def]; dsimp only; rw [if_neg c10, if_neg cl, if_neg c32, if_neg c58, if_neg c92, if_pos cw]
  · exact .inr (.inl ⟨c92, [], rule, word ++ B [c], true, tgt, col, by simp, ⟨Nat.le_succ _, by simp⟩, fun s i out => by rw [go.eq_def]; dsimp only; rw [if_neg c10, if_neg cl, if_neg c32, if_neg c58, if_neg c92, if_neg cw, List.append_nil]⟩)
/-- a text, an end of a line, a text -/
def Two (R S T : List S32 × Int × Int) : Prop := R = (if S.2.1 = 0 then T else S) ∧ (S.2.1 = 0 → S.2.2 = 0) ∧ (S.2.1 ≠ 0 → S.1 = [])
theorem two_wrong (i : Int) (T : List S32 × Int × Int) : Two ([], 6, i) ([], 6, i) T := by simp [Two]
theorem go_two : ∀ (n : Nat) (a : List UInt8), a.length ≤ n → okT a → ∀ (b : List UInt8) (i : Int) (out : List S32) (rule : S32) (word : ByteArray) (inn tgt col : Bool),
    Two (go (a ++ 10 :: b) i out rule word inn tgt col) (go (a ++ [10]) i out rule word inn tgt col) (go b (i + a.length + 1) (go (a ++ [10]) i out rule word inn tgt col).1 z32 ⟨#[]⟩ false false false) := by
  intro n
  have base : ∀ (b : List UInt8) (i : Int) (out : List S32) (rule : S32) (word : ByteArray) (inn tgt col : Bool),
    Two (go (10 :: b) i out rule word inn tgt col) (go [10] i out rule word inn tgt col) (go b (i + (([] : List UInt8).length : Int) + 1) (go [10] i out rule word inn tgt col).1 z32 ⟨#[]⟩ false false false) := by
    intro b i out rule word inn tgt col
    have hend : ∀ (i : Int) (o : List S32), go [] i o z32 ⟨#[]⟩ false false false = (o, 0, 0) := fun i o => rfl
    rw [go.eq_def (10 :: b), go.eq_def [10]]
    simp only [if_true, hend]
    unfold Two
    split
    · split
      · simp
      · simp
    · simp
  induction n with
  | zero =>
    intro a ha hk b i out rule word inn tgt col
    obtain rfl := List.eq_nil_of_length_eq_zero (Nat.le_zero.1 ha)
    exact base b i out rule word inn tgt col
  | succ n ih =>
    intro a ha hk b i out rule word inn tgt col
    cases a with
    | nil => exact base b i out rule word inn tgt col
    | cons c t =>
      have ht : t.length ≤ n := by simp at ha; omega
      rw [show (c :: t) ++ 10 :: b = c :: (t ++ 10 :: b) from rfl, show (c :: t) ++ [10] = c :: (t ++ [10]) from rfl]
      unfold okT at hk
      rcases go_view c t rule word inn tgt col with h | ⟨hc, ext, rule', word', inn', tgt', col', hx, hy, h⟩ | ⟨hc, rfl⟩ | ⟨hc, d, t', rfl, rule', word', inn', tgt', col', hy, h⟩
      · rw [h, h]; exact two_wrong _ _
      · rw [if_neg hc] at hk
        rw [h, h, show i + ((c :: t).length : Int) + 1 = i + 1 + (t.length : Int) + 1 by simp; omega]
        exact ih t ht hk b (i + 1) (out ++ ext) rule' word' inn' tgt' col'
      · rw [if_pos hc] at hk; exact hk.elim
      · rw [if_pos hc] at hk
        rw [h, h, show i + ((c :: d :: t').length : Int) + 1 = i + 1 + 1 + (t'.length : Int) + 1 by simp; omega]
        exact ih t' (by simp at ht; omega) hk b (i + 1 + 1) out rule' word' inn' tgt' col'
end Go.Proofs.Ytahdgaaedilcmaa.Pl
