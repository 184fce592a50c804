/- Depfiles, plainly: bounds of what is told; lists that are the same; the guard. -/
import Derived.Test.YtahdgaaedilcmaaPlDepT
import Derived.Test.YtahdgaaedilcmaaPxf11
import Derived.Test.YtahdgaaedilcmaaPxf14
namespace Go.Proofs.Ytahdgaaedilcmaa.Pl
open Go.RowKit Go.Proofs.Ytahdgaaedilcmaa.P Go.Proofs.YtahdgaaedilcmaaW.PrintWords Go.Proofs.YtahdgaaedilcmaaW.PrintLast Go.Proofs.YtahdgaaedilcmaaW.PrintMore

/-- what is told of a text: no wrong place and rules; or a wrong place within it, and none -/
def Told (i n m : Int) (R : List S32 × Int × Int) : Prop := (R.2.1 = 0 ∧ R.2.2 = 0 ∧ (R.1.length : Int) ≤ m) ∨ (R.2.1 = 6 ∧ i ≤ R.2.2 ∧ R.2.2 ≤ i + n ∧ R.1 = [])
theorem go_told : ∀ (n : Nat) (l : List UInt8), l.length ≤ n → ∀ (i : Int) (out : List S32) (rule : S32) (word : ByteArray) (inn tgt col : Bool) (j : Int) (m : Int), j ≤ i → (out.length : Int) + l.length + 1 ≤ m →
    Told j (i - j + l.length) m (go l i out rule word inn tgt col) := by
  intro n
  induction n using Nat.strongRecOn with
  | _ n ih =>
    intro l hl i out rule word inn tgt col j m hj hm
    cases l with
    | nil =>
      simp only [go]
      split
      · split
        · exact .inr ⟨rfl, hj, by simp; omega, rfl⟩
        · exact .inl ⟨rfl, rfl, by simp at hm ⊢; omega⟩
      · exact .inl ⟨rfl, rfl, by simp at hm ⊢; omega⟩
    | cons c t =>
      have hw : ∀ x, x = i → Told j (i - j + ((c :: t).length : Int)) m ([], 6, x) := fun x hx => .inr ⟨rfl, by show j ≤ x; omega, by show x ≤ _; simp; omega, rfl⟩
      rcases go_view c t rule word inn tgt col with h | ⟨hc, ext, rule', word', inn', tgt', col', hx, hy, h⟩ | ⟨rfl, rfl⟩ | ⟨hc, d, t', rfl, rule', word', inn', tgt', col', hy, h⟩
      · have := h [] i out; rw [List.append_nil] at this; rw [this]; exact hw _ rfl
      · have := h [] i out; rw [List.append_nil] at this; rw [this]
        have := ih t.length (by simp at hl; omega) t (Nat.le_refl _) (i + 1) (out ++ ext) rule' word' inn' tgt' col' j m (by omega) (by simp at hm ⊢; omega)
        rw [show i - j + ((c :: t).length : Int) = i + 1 - j + (t.length : Int) by simp; omega]
        exact this
      · exact hw _ rfl
      · have := h [] i out; rw [List.append_nil, List.append_nil] at this; rw [this]
        have := ih t'.length (by simp at hl; omega) t' (Nat.le_refl _) (i + 1 + 1) out rule' word' inn' tgt' col' j m (by omega) (by simp at hm ⊢; omega)
        rw [show i - j + ((c :: d :: t').length : Int) = i + 1 + 1 - j + (t'.length : Int) by simp; omega]
        exact this
theorem go_deps (M : Nat) : ∀ (n : Nat) (l : List UInt8), l.length ≤ n → ∀ (i : Int) (out : List S32) (rule : S32) (word : ByteArray) (inn tgt col : Bool), (∀ r ∈ out, r.f1.length ≤ M) → rule.f1.length + l.length + 1 ≤ M →
    ∀ r ∈ (go l i out rule word inn tgt col).1, r.f1.length ≤ M := by
  intro n
  induction n using Nat.strongRecOn with
  | _ n ih =>
    intro l hl i out rule word inn tgt col ho hm
    cases l with
    | nil =>
      have hcr := closeRule_len rule word inn col
      simp only [go]
      split
      · split
        · intro r hr; cases hr
        · intro r hr
          rcases List.mem_append.1 hr with h | h
          · exact ho r h
          · rw [List.mem_singleton.1 h]; simp at hm; omega
      · exact ho
    | cons c t =>
      have hw : ∀ x : Int, ∀ r ∈ (([] : List S32), (6 : Int), x).1, r.f1.length ≤ M := fun x r hr => by cases hr
      rcases go_view c t rule word inn tgt col with h | ⟨hc, ext, rule', word', inn', tgt', col', hx, hy, h⟩ | ⟨rfl, rfl⟩ | ⟨hc, d, t', rfl, rule', word', inn', tgt', col', hy, h⟩
      · have := h [] i out; rw [List.append_nil] at this; rw [this]; exact hw _
      · have := h [] i out; rw [List.append_nil] at this; rw [this]
        refine ih t.length (by simp at hl; omega) t (Nat.le_refl _) (i + 1) (out ++ ext) rule' word' inn' tgt' col' (fun r hr => ?_) (by simp at hm; omega)
        rcases List.mem_append.1 hr with h | h
        · exact ho r h
        · have := hy.2 r h; simp at hm; omega
      · exact hw _
      · have := h [] i out; rw [List.append_nil, List.append_nil] at this; rw [this]
        exact ih t'.length (by simp at hl; omega) t' (Nat.le_refl _) (i + 1 + 1) out rule' word' inn' tgt' col' ho (by simp at hm; omega)
theorem texts_refl (l : List ByteArray) (hl : l.length < 1000000000) : Ev (fun k => brickyardref16_Texts.f k l l) true := by
  have h0 : ∀ (d i : Nat), i + d = l.length → Ev (fun k => brickyardref16_Texts.l0 k l l (i : Int)) true := by
    intro d
    induction d with
    | zero =>
      intro i hi
      refine ev_succ ?_
      simp only [brickyardref16_Texts.l0]
      exact ev_ite_neg (by omega) (ev_const rfl)
    | succ d ih =>
      intro i hi
      refine ev_succ ?_
      simp only [brickyardref16_Texts.l0]
      refine ev_ite_pos (by omega) (ev_ite_pos (by omega) (ev_ite_pos (by omega) (ev_ite_pos (by trivial) ?_)))
      rw [show wrap64 ((i : Int) + 1) = ((i + 1 : Nat) : Int) by rw [w64 (by omega) (by omega)]; rfl]
      exact ih (i + 1) (by omega)
  unfold brickyardref16_Texts.f
  exact ev_ite_pos rfl (h0 l.length 0 (by omega))
theorem same_refl (l : List S32) (hl : l.length < 1000000000) (hd : ∀ r ∈ l, r.f1.length < 1000000000) : Ev (fun k => brickyardref16_Same.f k l l) true := by
  have h0 : ∀ (d i : Nat), i + d = l.length → Ev (fun k => brickyardref16_Same.l0 k l l (i : Int)) true := by
    intro d
    induction d with
    | zero =>
      intro i hi
      refine ev_succ ?_
      simp only [brickyardref16_Same.l0]
      exact ev_ite_neg (by omega) (ev_const rfl)
    | succ d ih =>
      intro i hi
      refine ev_succ ?_
      simp only [brickyardref16_Same.l0]
      refine ev_ite_pos (by omega) (ev_ite_pos (by omega) (ev_ite_pos (by omega) (ev_ite_pos (by trivial) ?_)))
      have hm : rd_T32 l (i : Int) ∈ l := by
        unfold rd_T32
        rw [Int.toNat_natCast, List.getD_eq_getElem?_getD, List.getElem?_eq_getElem (by omega)]
        exact List.getElem_mem _
      refine ev_bind (texts_refl _ (hd _ hm)) (ev_ite_pos rfl ?_)
      rw [show wrap64 ((i : Int) + 1) = ((i + 1 : Nat) : Int) by rw [w64 (by omega) (by omega)]; rfl]
      exact ih (i + 1) (by omega)
  unfold brickyardref16_Same.f
  exact ev_ite_pos rfl (h0 l.length 0 (by omega))
theorem works_ev : Ev (fun k => brickyardlaw16_works.f k) true := by
  have e : parse (L (⟨#[97, 46, 111, 58, 32, 97, 46, 99, 32, 92, 10, 32, 104, 10]⟩ : ByteArray)) = ([⟨B [97, 46, 111], [B [97, 46, 99], B [104]]⟩], 0, 0) := by rfl
  unfold brickyardlaw16_works.f
  refine ev_bind (parse_ev _) (ev_const ?_)
  rw [e]
  simp only [toList_L]
  rfl
end Go.Proofs.Ytahdgaaedilcmaa.Pl
