/- Paths, plainly: segments, the pieces between slashes, the one form. No program in sight. -/
import Derived.Test.YtkldaghhfnpcjaaPlBase
import Derived.Lib.Join
import Derived.Lib.Bytealg
namespace Go.Proofs.Ytkldaghhfnpcjaa.Pl
open Go.RowKit Go.Proofs.YtkldaghhfnpcjaaW.PrintWords

def mayB (u : UInt8) : Bool := decide ((97 ≤ u.toNat ∧ u.toNat ≤ 122) ∨ (48 ≤ u.toNat ∧ u.toNat ≤ 57) ∨ u.toNat = 95 ∨ u.toNat = 46 ∨ u.toNat = 45)
def segB (l : List UInt8) : Bool := decide (l ≠ []) && decide (l.length ≤ 32) && decide (l ≠ [46]) && decide (l ≠ [46, 46]) && l.all mayB
/-- the pieces between a text's slashes -/
def pieces : List UInt8 → List (List UInt8)
  | [] => [[]]
  | c :: l => if c = 47 then [] :: pieces l else (c :: (pieces l).headD []) :: (pieces l).tail
/-- a piece's begin, ahead of the pieces of what follows -/
def glue (cur : List UInt8) (ps : List (List UInt8)) : List (List UInt8) := (cur ++ ps.headD []) :: ps.tail
theorem pieces_ne (l : List UInt8) : pieces l ≠ [] := by
  cases l with
  | nil => simp [pieces]
  | cons c l => unfold pieces; split <;> simp
theorem glue_nil (l : List UInt8) : glue [] (pieces l) = pieces l := by
  have h := pieces_ne l
  cases hp : pieces l with
  | nil => exact absurd hp h
  | cons a r => rfl
theorem pieces_slash (l : List UInt8) : pieces (47 :: l) = [] :: pieces l := by simp [pieces]
theorem pieces_other {c : UInt8} (h : c ≠ 47) (l : List UInt8) : pieces (c :: l) = (c :: (pieces l).headD []) :: (pieces l).tail := by simp [pieces, h]
theorem glue_other {c : UInt8} (h : c ≠ 47) (cur l : List UInt8) : glue cur (pieces (c :: l)) = glue (cur ++ [c]) (pieces l) := by
  rw [pieces_other h]; simp [glue]
theorem glue_slash (cur l : List UInt8) : glue cur (pieces (47 :: l)) = cur :: pieces l := by
  rw [pieces_slash]; simp [glue]
theorem pieces_app {a : List UInt8} (h : (47 : UInt8) ∉ a) (l : List UInt8) : pieces (a ++ l) = glue a (pieces l) := by
  induction a with
  | nil => rw [List.nil_append, glue_nil]
  | cons c a ih =>
    have hc : c ≠ 47 := fun e => h (by rw [e]; exact List.mem_cons_self)
    have ha : (47 : UInt8) ∉ a := fun e => h (List.mem_cons_of_mem _ e)
    rw [List.cons_append, pieces_other hc, ih ha]
    simp [glue]
theorem pieces_one {a : List UInt8} (h : (47 : UInt8) ∉ a) : pieces a = [a] := by
  have := pieces_app h []
  rw [List.append_nil] at this
  rw [this]
  simp [pieces, glue]
theorem pieces_cut {a : List UInt8} (h : (47 : UInt8) ∉ a) (b : List UInt8) : pieces (a ++ 47 :: b) = a :: pieces b := by
  rw [pieces_app h, glue_slash]
theorem pieces_length (l : List UInt8) : (pieces l).length ≤ l.length + 1 := by
  induction l with
  | nil => simp [pieces]
  | cons c l ih =>
    unfold pieces
    split
    · simp; omega
    · simp [List.length_tail]; omega
theorem pieces_len_mem (l : List UInt8) : ∀ p ∈ pieces l, p.length ≤ l.length := by
  induction l with
  | nil => intro p hp; simp [pieces] at hp; subst hp; simp
  | cons c l ih =>
    intro p hp
    unfold pieces at hp
    have hn := pieces_ne l
    split at hp
    · rcases List.mem_cons.1 hp with rfl | hp
      · simp
      · have := ih p hp; simp; omega
    · cases hq : pieces l with
      | nil => exact absurd hq hn
      | cons a r =>
        rw [hq] at hp ih
        rcases List.mem_cons.1 hp with rfl | hp
        · have := ih a List.mem_cons_self; simp; omega
        · have := ih p (List.mem_cons_of_mem _ hp); simp; omega
/-- a byte's first place, or none -/
theorem ib_cases (l : List UInt8) (c : UInt8) : (Lib.indexByte l c = -1 ∧ c ∉ l) ∨ ∃ i : Nat, Lib.indexByte l c = (i : Int) ∧ i < l.length ∧ l = l.take i ++ c :: l.drop (i + 1) ∧ c ∉ l.take i := by
  induction l with
  | nil => exact .inl ⟨rfl, by simp⟩
  | cons b l ih =>
    by_cases hb : b = c
    · subst hb
      exact .inr ⟨0, by simp [Lib.indexByte], by simp, by simp, by simp⟩
    · have hb' : (b == c) = false := by simpa using hb
      rcases ih with ⟨h, hn⟩ | ⟨i, h, hl, he, hn⟩
      · refine .inl ⟨?_, ?_⟩
        · simp [Lib.indexByte, hb', h]
        · intro hm
          rcases List.mem_cons.1 hm with e | hm
          · exact hb e.symm
          · exact hn hm
      · refine .inr ⟨i + 1, ?_, by simpa using hl, ?_, ?_⟩
        · have h1 : ((i : Int) == -1) = false := by rw [beq_eq_false_iff_ne]; omega
          simp [Lib.indexByte, hb', h, h1]
        · simpa using he
        · intro hm
          rw [List.take_succ_cons] at hm
          rcases List.mem_cons.1 hm with e | hm
          · exact hb e.symm
          · exact hn hm
/-- going through pieces: what is kept -/
def walk : List (List UInt8) → List (List UInt8) → Option (List (List UInt8))
  | kept, [] => some kept
  | kept, p :: ps => if p = [] ∨ p = [46] then walk kept ps else if p = [46, 46] then (if kept = [] then none else walk kept.dropLast ps) else if segB p = true then walk (kept ++ [p]) ps else none
def fin (kept : List (List UInt8)) : List UInt8 × Int :=
  if kept = [] then ([], 2) else if (Lib.join kept [47]).length > 60 then ([], 3) else (Lib.join kept [47], 0)
def resOf : Option (List (List UInt8)) → List UInt8 × Int
  | none => ([], 2)
  | some kept => fin kept
def normL (l : List UInt8) : List UInt8 × Int := resOf (walk [] (pieces l))
def isL (l : List UInt8) : Bool := decide (l.length ≤ 60) && (pieces l).all segB
/-- a number's successor -/
theorem wsucc {i : Nat} (h : i < 9223372036854775807) : wrap64 ((i : Int) + 1) = ((i + 1 : Nat) : Int) := by
  rw [w64 (by omega) (by omega)]; omega
theorem map_B_L (l : List ByteArray) : (l.map L).map B = l := by
  rw [List.map_map]
  conv => rhs; rw [← List.map_id l]
  exact List.map_congr_left (fun x _ => B_L x)
theorem map_L_B (l : List (List UInt8)) : (l.map B).map L = l := by
  rw [List.map_map]
  conv => rhs; rw [← List.map_id l]
  exact List.map_congr_left (fun x _ => L_B x)
theorem L_nil : L (⟨#[]⟩ : ByteArray) = [] := rfl
theorem B_nil : B [] = (⟨#[]⟩ : ByteArray) := rfl
theorem join_len (l : List (List UInt8)) : l ≠ [] → ((Lib.join l [47]).length : Int) = -1 + (l.map (fun x => (x.length : Int) + 1)).sum := by
  cases l with
  | nil => intro h; exact absurd rfl h
  | cons x r =>
    intro _
    rw [Lib.join_length]
    have : ∀ r : List (List UInt8), ((Lib.lens r : Nat) : Int) + (r.length : Int) = (r.map (fun x => (x.length : Int) + 1)).sum := by
      intro r
      induction r with
      | nil => rfl
      | cons y r ih =>
        have e : Lib.lens (y :: r) = y.length + Lib.lens r := by simp [Lib.lens]
        rw [e, List.map_cons, List.sum_cons, List.length_cons, ← ih]
        omega
    have h1 := this (x :: r)
    rw [← h1, show ([47] : List UInt8).length * r.length = r.length from Nat.one_mul _, List.length_cons]
    omega
end Go.Proofs.Ytkldaghhfnpcjaa.Pl
