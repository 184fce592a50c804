/- Depfiles, plainly: what the program's reader computes, as a function of a text's bytes. -/
import Derived.Test.YtahdgaaedilcmaaPlBase
import Derived.Test.YtahdgaaedilcmaaGParse
namespace Go.Proofs.Ytahdgaaedilcmaa.Pl
open Go.RowKit Go.Proofs.Ytahdgaaedilcmaa.P Go.Proofs.YtahdgaaedilcmaaW.PrintWords Go.Proofs.YtahdgaaedilcmaaW.PrintLast Go.Proofs.YtahdgaaedilcmaaW.PrintMore

def escB (d : UInt8) : Bool := d == 10 || d == 32 || d == 58 || d == 92
/-- what the reader does from a place on -/
def go : List UInt8 → Int → List S32 → S32 → ByteArray → Bool → Bool → Bool → List S32 × Int × Int
  | [], i, out, rule, word, inn, tgt, col => if closeTgt inn tgt col = true then (if col = false then ([], 6, i) else (out ++ [closeRule rule word inn col], 0, 0)) else (out, 0, 0)
  | c :: t, i, out, rule, word, inn, tgt, col =>
    if c = 10 then
      if closeTgt inn tgt col = true then
        if col = false then ([], 6, i) else go t (i + 1) (out ++ [closeRule rule word inn col]) z32 ⟨#[]⟩ false false false
      else go t (i + 1) out z32 ⟨#[]⟩ false false false
    else if c.toNat < 32 then ([], 6, i)
    else if c = 32 then go t (i + 1) out (closeRule rule word inn col) ⟨#[]⟩ false (closeTgt inn tgt col) col
    else if c = 58 then
      if closeTgt inn tgt col = false ∨ col = true then ([], 6, i)
      else go t (i + 1) out (closeRule rule word inn col) ⟨#[]⟩ false (closeTgt inn tgt col) true
    else if c = 92 then
      match t with
      | [] => ([], 6, i)
      | d :: t' =>
        if escB d = false then ([], 6, i)
        else if d = 10 then go t' (i + 1 + 1) out (closeRule rule word inn col) ⟨#[]⟩ false (closeTgt inn tgt col) col
        else if inn = false ∧ tgt = true ∧ col = false then ([], 6, i)
        else go t' (i + 1 + 1) out rule (word ++ B [d]) true tgt col
    else if inn = false ∧ tgt = true ∧ col = false then ([], 6, i)
    else go t (i + 1) out rule (word ++ B [c]) true tgt col
def parse (l : List UInt8) : List S32 × Int × Int := if 32768 < l.length then ([], 3, 32768) else go l 0 [] z32 ⟨#[]⟩ false false false

theorem escI_u8 (d : UInt8) : escI ((d.toNat : Nat) : Int) = escB d := by
  unfold escI escB
  have h : ∀ (n : Nat), n < 256 → (((d.toNat : Int) == (n : Int)) = (d == UInt8.ofNat n)) := by
    intro n hn
    by_cases e : (d.toNat : Int) = (n : Int)
    · rw [beq_iff_eq.mpr e, beq_iff_eq.mpr ((u8_eq d n hn).1 e)]
    · rw [beq_eq_false_iff_ne.mpr e, beq_eq_false_iff_ne.mpr (fun x => e ((u8_eq d n hn).2 x))]
  have h10 : ((d.toNat : Int) == 10) = (d == 10) := h 10 (by decide)
  have h32 : ((d.toNat : Int) == 32) = (d == 32) := h 32 (by decide)
  have h58 : ((d.toNat : Int) == 58) = (d == 58) := h 58 (by decide)
  have h92 : ((d.toNat : Int) == 92) = (d == 92) := h 92 (by decide)
  rw [h10, h32, h58, h92]
theorem oneB_u8 (d : UInt8) : oneB ((d.toNat : Nat) : Int) = B [d] := by
  unfold oneB strOfNums B
  simp
theorem closeRule_len (rule : S32) (word : ByteArray) (inn col : Bool) : (closeRule rule word inn col).f1.length ≤ rule.f1.length + 1 := by
  unfold closeRule; split
  · simp
  · split <;> simp
theorem go_ev (a0 : ByteArray) (hs : a0.size ≤ 32768) : ∀ (n : Nat) (l : List UInt8) (i : Nat) (out : List S32) (rule : S32) (word : ByteArray) (inn tgt col : Bool), l.length ≤ n → (L a0).drop i = l → i ≤ a0.size → out.length ≤ i → rule.f1.length ≤ i → word.size ≤ i →
    Ev (fun k => depfile_Parse.l0 k a0 out rule word inn tgt col (i : Int)) (go l (i : Int) out rule word inn tgt col) := by
  intro n
  induction n with
  | zero =>
    intro l i out rule word inn tgt col hn hl hi ho hr hw
    obtain rfl := List.eq_nil_of_length_eq_zero (Nat.le_zero.1 hn)
    have hi2 : i = a0.size := by
      have := congrArg List.length hl
      rw [List.length_drop, ← size_L] at this
      simp at this; omega
    have hend : ∀ (out' : List S32) , out'.length ≤ i + 1 → Ev (fun k => depfile_Parse.l0 k a0 out' z32 ⟨#[]⟩ false false false ((i : Int) + 1)) (out', 0, 0) := by
      intro out' ho'
      refine ev_succ ?_
      simp only [depfile_Parse.l0]
      refine ev_ite_pos ⟨by omega, by omega, by omega, by simp [z32], by show 0 < 100000; decide⟩ (ev_ite_neg (by omega) (ev_const rfl))
    refine ev_succ ?_
    simp only [depfile_Parse.l0, go]
    refine ev_ite_pos ⟨by omega, by omega, by omega, by omega, by omega⟩ (ev_ite_pos (by omega) (ev_ite_pos (.inl (by omega)) ?_))
    by_cases ct : closeTgt inn tgt col = true
    · rw [if_pos ct]
      refine ev_ite_pos ct ?_
      by_cases cc : col = false
      · rw [if_pos cc]; exact ev_ite_pos cc (ev_const rfl)
      · rw [if_neg cc]; exact ev_ite_neg cc (hend _ (by simp; omega))
    · rw [if_neg ct]
      exact ev_ite_neg ct (hend _ (by omega))
  | succ n ih =>
    intro l i out rule word inn tgt col hn hl hi ho hr hw
    cases l with
    | nil =>
      exact ih [] i out rule word inn tgt col (by simp) hl hi ho hr hw
    | cons c t =>
      have hlt : i < (L a0).length := by
        have := congrArg List.length hl
        rw [List.length_drop] at this
        simp at this; omega
      have hsz : a0.size = (L a0).length := size_L a0
      rw [drop_cons hlt] at hl
      injection hl with hc ht
      have hb : bt a0 (i : Int) = ((c.toNat : Nat) : Int) := by rw [bt_L a0 i hlt, hc]
      have htl : t.length ≤ n := by simp at hn; omega
      have e : ∀ (v : Nat), v < 256 → (bt a0 (i : Int) = (v : Int) ↔ c = UInt8.ofNat v) := fun v hv => by rw [hb]; exact u8_eq c v hv
      have e10 : bt a0 (i : Int) = 10 ↔ c = 10 := e 10 (by decide)
      have e32 : bt a0 (i : Int) = 32 ↔ c = 32 := e 32 (by decide)
      have e58 : bt a0 (i : Int) = 58 ↔ c = 58 := e 58 (by decide)
      have e92 : bt a0 (i : Int) = 92 ↔ c = 92 := e 92 (by decide)
      have next : ∀ (out' : List S32) (rule' : S32) (word' : ByteArray) (inn' tgt' col' : Bool), out'.length ≤ i + 1 → rule'.f1.length ≤ i + 1 → word'.size ≤ i + 1 →
          Ev (fun k => depfile_Parse.l0 k a0 out' rule' word' inn' tgt' col' ((i : Int) + 1)) (go t ((i : Int) + 1) out' rule' word' inn' tgt' col') :=
        fun out' rule' word' inn' tgt' col' h1 h2 h3 => ih t (i + 1) out' rule' word' inn' tgt' col' htl ht (by omega) h1 h2 h3
      have hcr := closeRule_len rule word inn col
      refine ev_succ ?_
      simp only [depfile_Parse.l0]
      rw [go.eq_def]
      refine ev_ite_pos ⟨by omega, by omega, by omega, by omega, by omega⟩ (ev_ite_pos (by omega) ?_)
      dsimp only
      by_cases c10 : c = 10
      · rw [if_pos c10]
        refine ev_ite_pos (.inr (e10.2 c10)) ?_
        by_cases ct : closeTgt inn tgt col = true
        · rw [if_pos ct]
          refine ev_ite_pos ct ?_
          by_cases cc : col = false
          · rw [if_pos cc]; exact ev_ite_pos cc (ev_const rfl)
          · rw [if_neg cc]; exact ev_ite_neg cc (next _ _ _ _ _ _ (by simp; omega) (by simp [z32]) (by show 0 ≤ _; omega))
        · rw [if_neg ct]
          exact ev_ite_neg ct (next _ _ _ _ _ _ (by omega) (by simp [z32]) (by show 0 ≤ _; omega))
      rw [if_neg c10]
      refine ev_ite_neg (fun h => h.elim (by omega) (fun h => c10 (e10.1 h))) ?_
      by_cases cl : c.toNat < 32
      · rw [if_pos cl]; exact ev_ite_pos (by omega) (ev_const rfl)
      rw [if_neg cl]
      refine ev_ite_neg (by omega) ?_
      by_cases c32 : c = 32
      · rw [if_pos c32]; exact ev_ite_pos (e32.2 c32) (next _ _ _ _ _ _ (by omega) (by omega) (by show 0 ≤ _; omega))
      rw [if_neg c32]
      refine ev_ite_neg (fun h => c32 (e32.1 h)) ?_
      by_cases c58 : c = 58
      · rw [if_pos c58]
        refine ev_ite_pos (e58.2 c58) ?_
        by_cases cw : closeTgt inn tgt col = false ∨ col = true
        · rw [if_pos cw]; exact ev_ite_pos cw (ev_const rfl)
        · rw [if_neg cw]; exact ev_ite_neg cw (next _ _ _ _ _ _ (by omega) (by omega) (by show 0 ≤ _; omega))
      rw [if_neg c58]
      refine ev_ite_neg (fun h => c58 (e58.1 h)) ?_
      by_cases c92 : c = 92
      · rw [if_pos c92]
        refine ev_ite_pos (e92.2 c92) ?_
        cases t with
        | nil =>
          have : i + 1 = a0.size := by
            have := congrArg List.length ht
            rw [List.length_drop] at this
            simp at this; omega
          exact ev_ite_pos (.inl (by omega)) (ev_const rfl)
        | cons d t' =>
          have hlt2 : i + 1 < (L a0).length := by
            have := congrArg List.length ht
            rw [List.length_drop] at this
            simp at this; omega
          rw [drop_cons hlt2] at ht
          injection ht with hd ht'
          have hb2 : bt a0 ((i : Int) + 1) = ((d.toNat : Nat) : Int) := by
            have := bt_L a0 (i + 1) hlt2
            rw [hd] at this
            exact this
          have he := escI_u8 d
          rw [← hb2] at he
          have ho2 := oneB_u8 d
          rw [← hb2] at ho2
          have d10 : bt a0 ((i : Int) + 1) = 10 ↔ d = 10 := by rw [hb2]; exact u8_eq d 10 (by decide)
          have next2 : ∀ (rule' : S32) (word' : ByteArray) (inn' tgt' col' : Bool), rule'.f1.length ≤ i + 1 + 1 → word'.size ≤ i + 1 + 1 →
              Ev (fun k => depfile_Parse.l0 k a0 out rule' word' inn' tgt' col' ((i : Int) + 1 + 1)) (go t' ((i : Int) + 1 + 1) out rule' word' inn' tgt' col') :=
            fun rule' word' inn' tgt' col' h2 h3 => ih t' (i + 1 + 1) out rule' word' inn' tgt' col' (by simp at htl; omega) ht' (by omega) (by omega) h2 h3
          dsimp only
          by_cases ce : escB d = false
          · rw [if_pos ce]; exact ev_ite_pos (.inr (he.trans ce)) (ev_const rfl)
          rw [if_neg ce]
          refine ev_ite_neg (fun h => h.elim (by omega) (fun h => ce (he.symm.trans h))) ?_
          by_cases cd : d = 10
          · rw [if_pos cd]; exact ev_ite_pos (d10.2 cd) (next2 _ _ _ _ _ (by omega) (by show 0 ≤ _; omega))
          rw [if_neg cd]
          refine ev_ite_neg (fun h => cd (d10.1 h)) ?_
          by_cases cw : inn = false ∧ tgt = true ∧ col = false
          · rw [if_pos cw]; exact ev_ite_pos cw (ev_const rfl)
          · rw [if_neg cw, ho2]; exact ev_ite_neg cw (next2 _ _ _ _ _ (by omega) (by rw [ByteArray.size_append, size_B]; simp; omega))
      rw [if_neg c92]
      refine ev_ite_neg (fun h => c92 (e92.1 h)) ?_
      have ho2 := oneB_u8 c
      rw [← hb] at ho2
      by_cases cw : inn = false ∧ tgt = true ∧ col = false
      · rw [if_pos cw]; exact ev_ite_pos cw (ev_const rfl)
      · rw [if_neg cw, ho2]; exact ev_ite_neg cw (next _ _ _ _ _ _ (by omega) (by omega) (by rw [ByteArray.size_append, size_B]; simp; omega))
theorem parse_ev (a0 : ByteArray) : Ev (fun k => depfile_Parse.f k a0) (parse (L a0)) := by
  unfold depfile_Parse.f parse
  have hsz : a0.size = (L a0).length := size_L a0
  by_cases h : 32768 < (L a0).length
  · rw [if_pos h]; exact ev_ite_pos (by omega) (ev_const rfl)
  · rw [if_neg h]
    exact ev_ite_neg (by omega) (go_ev a0 (by omega) _ (L a0) 0 [] z32 ⟨#[]⟩ false false false (Nat.le_refl _) rfl (Nat.zero_le _) (Nat.le_refl _) (by simp [z32]) (by show 0 ≤ _; omega))
end Go.Proofs.Ytahdgaaedilcmaa.Pl
