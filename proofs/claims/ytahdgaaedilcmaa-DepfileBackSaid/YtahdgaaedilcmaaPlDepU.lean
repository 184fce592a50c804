/- Folded: PlDep, PlDepT, PlDepU. -/
import Derived.Test.YtahdgaaedilcmaaPlBase
import Derived.Test.YtahdgaaedilcmaaGParse
import Derived.Test.YtahdgaaedilcmaaPxf11
import Derived.Test.YtahdgaaedilcmaaPxf14
/- Depfiles, plainly: what the program's reader computes, as a function of a text's bytes. -/
namespace Go.Proofs.Ytahdgaaedilcmaa.Pl
open Go.RowKit Go.Proofs.Ytahdgaaedilcmaa.P Go.Proofs.YtahdgaaedilcmaaW.PrintWords Go.Proofs.YtahdgaaedilcmaaW.PrintLast Go.Proofs.YtahdgaaedilcmaaW.PrintMore

def escB (d : UInt8) : Bool := d == 10 || d == 32 || d == 58 || d == 92
/-- what the reader does from a place on -/
def go : List UInt8 → Int → List S32 → S32 → ByteArray → Bool → Bool → Bool → List S32 × Int × Int
  | [], i, out, rule, word, inn, tgt, col => if closeTgt inn tgt col = true then (if col = false then ([], 6, i) else (out ++ [closeRule rule word inn col], 0, 0)) else (out, 0, 0)
  | c :: t, i, out, rule, word, inn, tgt, col =>
    if c = 10 then
      if closeTgt inn tgt col = true then
        if col = false then ([], 6, i) else go t (i + 1) (out ++ [closeRule rule word inn col]) z32 ⟨#[]⟩ false false false
      else go t (i + 1) out z32 ⟨#[]⟩ false false false
    else if c.toNat < 32 then ([], 6, i)
    else if c = 32 then go t (i + 1) out (closeRule rule word inn col) ⟨#[]⟩ false (closeTgt inn tgt col) col
    else if c = 58 then
      if closeTgt inn tgt col = false ∨ col = true then ([], 6, i)
      else go t (i + 1) out (closeRule rule word inn col) ⟨#[]⟩ false (closeTgt inn tgt col) true
    else if c = 92 then
      match t with
      | [] => ([], 6, i)
      | d :: t' =>
        if escB d = false then ([], 6, i)
        else if d = 10 then go t' (i + 1 + 1) out (closeRule rule word inn col) ⟨#[]⟩ false (closeTgt inn tgt col) col
        else if inn = false ∧ tgt = true ∧ col = false then ([], 6, i)
        else go t' (i + 1 + 1) out rule (word ++ B [d]) true tgt col
    else if inn = false ∧ tgt = true ∧ col = false then ([], 6, i)
    else go t (i + 1) out rule (word ++ B [c]) true tgt col
def parse (l : List UInt8) : List S32 × Int × Int := if 32768 < l.length then ([], 3, 32768) else go l 0 [] z32 ⟨#[]⟩ false false false

theorem escI_u8 (d : UInt8) : escI ((d.toNat : Nat) : Int) = escB d := by
  unfold escI escB
  have h : ∀ (n : Nat), n < 256 → (((d.toNat : Int) == (n : Int)) = (d == UInt8.ofNat n)) := by
    intro n hn
    by_cases e : (d.toNat : Int) = (n : Int)
    · rw [beq_iff_eq.mpr e, beq_iff_eq.mpr ((u8_eq d n hn).1 e)]
    · rw [beq_eq_false_iff_ne.mpr e, beq_eq_false_iff_ne.mpr (fun x => e ((u8_eq d n hn).2 x))]
  have h10 : ((d.toNat : Int) == 10) = (d == 10) := h 10 (by decide)
  have h32 : ((d.toNat : Int) == 32) = (d == 32) := h 32 (by decide)
  have h58 : ((d.toNat : Int) == 58) = (d == 58) := h 58 (by decide)
  have h92 : ((d.toNat : Int) == 92) = (d == 92) := h 92 (by decide)
  rw [h10, h32, h58, h92]
theorem oneB_u8 (d : UInt8) : oneB ((d.toNat : Nat) : Int) = B [d] := by
  unfold oneB strOfNums B
  simp
theorem closeRule_len (rule : S32) (word : ByteArray) (inn col : Bool) : (closeRule rule word inn col).f1.length ≤ rule.f1.length + 1 := by
  unfold closeRule; split
  · simp
  · split <;> simp
theorem go_ev (a0 : ByteArray) (hs : a0.size ≤ 32768) : ∀ (n : Nat) (l : List UInt8) (i : Nat) (out : List S32) (rule : S32) (word : ByteArray) (inn tgt col : Bool), l.length ≤ n → (L a0).drop i = l → i ≤ a0.size → out.length ≤ i → rule.f1.length ≤ i → word.size ≤ i →
    Ev (fun k => depfile_Parse.l0 k a0 out rule word inn tgt col (i : Int)) (go l (i : Int) out rule word inn tgt col) := by
  intro n
  induction n with
  | zero =>
    intro l i out rule word inn tgt col hn hl hi ho hr hw
    obtain rfl := List.eq_nil_of_length_eq_zero (Nat.le_zero.1 hn)
    have hi2 : i = a0.size := by
      have := congrArg List.length hl
      rw [List.length_drop, ← size_L] at this
      simp at this; omega
    have hend : ∀ (out' : List S32) , out'.length ≤ i + 1 → Ev (fun k => depfile_Parse.l0 k a0 out' z32 ⟨#[]⟩ false false false ((i : Int) + 1)) (out', 0, 0) := by
      intro out' ho'
      refine ev_succ ?_
      simp only [depfile_Parse.l0]
      refine ev_ite_pos ⟨by omega, by omega, by omega, by simp [z32], by show 0 < 100000; decide⟩ (ev_ite_neg (by omega) (ev_const rfl))
    refine ev_succ ?_
    simp only [depfile_Parse.l0, go]
    refine ev_ite_pos ⟨by omega, by omega, by omega, by omega, by omega⟩ (ev_ite_pos (by omega) (ev_ite_pos (.inl (by omega)) ?_))
    by_cases ct : closeTgt inn tgt col = true
    · rw [if_pos ct]
      refine ev_ite_pos ct ?_
      by_cases cc : col = false
      · rw [if_pos cc]; exact ev_ite_pos cc (ev_const rfl)
      · rw [if_neg cc]; exact ev_ite_neg cc (hend _ (by simp; omega))
    · rw [if_neg ct]
      exact ev_ite_neg ct (hend _ (by omega))
  | succ n ih =>
    intro l i out rule word inn tgt col hn hl hi ho hr hw
    cases l with
    | nil =>
      exact ih [] i out rule word inn tgt col (by simp) hl hi ho hr hw
    | cons c t =>
      have hlt : i < (L a0).length := by
        have := congrArg List.length hl
        rw [List.length_drop] at this
        simp at this; omega
      have hsz : a0.size = (L a0).length := size_L a0
      rw [drop_cons hlt] at hl
      injection hl with hc ht
      have hb : bt a0 (i : Int) = ((c.toNat : Nat) : Int) := by rw [bt_L a0 i hlt, hc]
      have htl : t.length ≤ n := by simp at hn; omega
      have e : ∀ (v : Nat), v < 256 → (bt a0 (i : Int) = (v : Int) ↔ c = UInt8.ofNat v) := fun v hv => by rw [hb]; exact u8_eq c v hv
      have e10 : bt a0 (i : Int) = 10 ↔ c = 10 := e 10 (by decide)
      have e32 : bt a0 (i : Int) = 32 ↔ c = 32 := e 32 (by decide)
      have e58 : bt a0 (i : Int) = 58 ↔ c = 58 := e 58 (by decide)
      have e92 : bt a0 (i : Int) = 92 ↔ c = 92 := e 92 (by decide)
      have next : ∀ (out' : List S32) (rule' : S32) (word' : ByteArray) (inn' tgt' col' : Bool), out'.length ≤ i + 1 → rule'.f1.length ≤ i + 1 → word'.size ≤ i + 1 →
          Ev (fun k => depfile_Parse.l0 k a0 out' rule' word' inn' tgt' col' ((i : Int) + 1)) (go t ((i : Int) + 1) out' rule' word' inn' tgt' col') :=
        fun out' rule' word' inn' tgt' col' h1 h2 h3 => ih t (i + 1) out' rule' word' inn' tgt' col' htl ht (by omega) h1 h2 h3
      have hcr := closeRule_len rule word inn col
      refine ev_succ ?_
      simp only [depfile_Parse.l0]
      rw [go.eq_def]
      refine ev_ite_pos ⟨by omega, by omega, by omega, by omega, by omega⟩ (ev_ite_pos (by omega) ?_)
      dsimp only
      by_cases c10 : c = 10
      · rw [if_pos c10]
        refine ev_ite_pos (.inr (e10.2 c10)) ?_
        by_cases ct : closeTgt inn tgt col = true
        · rw [if_pos ct]
          refine ev_ite_pos ct ?_
          by_cases cc : col = false
          · rw [if_pos cc]; exact ev_ite_pos cc (ev_const rfl)
          · rw [if_neg cc]; exact ev_ite_neg cc (next _ _ _ _ _ _ (by simp; omega) (by simp [z32]) (by show 0 ≤ _; omega))
        · rw [if_neg ct]
          exact ev_ite_neg ct (next _ _ _ _ _ _ (by omega) (by simp [z32]) (by show 0 ≤ _; omega))
      rw [if_neg c10]
      refine ev_ite_neg (fun h => h.elim (by omega) (fun h => c10 (e10.1 h))) ?_
      by_cases cl : c.toNat < 32
      · rw [if_pos cl]; exact ev_ite_pos (by omega) (ev_const rfl)
      rw [if_neg cl]
      refine ev_ite_neg (by omega) ?_
      by_cases c32 : c = 32
      · rw [if_pos c32]; exact ev_ite_pos (e32.2 c32) (next _ _ _ _ _ _ (by omega) (by omega) (by show 0 ≤ _; omega))
      rw [if_neg c32]
      refine ev_ite_neg (fun h => c32 (e32.1 h)) ?_
      by_cases c58 : c = 58
      · rw [if_pos c58]
        refine ev_ite_pos (e58.2 c58) ?_
        by_cases cw : closeTgt inn tgt col = false ∨ col = true
        · rw [if_pos cw]; exact ev_ite_pos cw (ev_const rfl)
        · rw [if_neg cw]; exact ev_ite_neg cw (next _ _ _ _ _ _ (by omega) (by omega) (by show 0 ≤ _; omega))
      rw [if_neg c58]
      refine ev_ite_neg (fun h => c58 (e58.1 h)) ?_
      by_cases c92 : c = 92
      · rw [if_pos c92]
        refine ev_ite_pos (e92.2 c92) ?_
        cases t with
        | nil =>
          have : i + 1 = a0.size := by
            have := congrArg List.length ht
            rw [List.length_drop] at this
            simp at this; omega
          exact ev_ite_pos (.inl (by omega)) (ev_const rfl)
        | cons d t' =>
          have hlt2 : i + 1 < (L a0).length := by
            have := congrArg List.length ht
            rw [List.length_drop] at this
            simp at this; omega
          rw [drop_cons hlt2] at ht
          injection ht with hd ht'
          have hb2 : bt a0 ((i : Int) + 1) = ((d.toNat : Nat) : Int) := by
            have := bt_L a0 (i + 1) hlt2
            rw [hd] at this
            exact this
          have he := escI_u8 d
          rw [← hb2] at he
          have ho2 := oneB_u8 d
          rw [← hb2] at ho2
          have d10 : bt a0 ((i : Int) + 1) = 10 ↔ d = 10 := by rw [hb2]; exact u8_eq d 10 (by decide)
          have next2 : ∀ (rule' : S32) (word' : ByteArray) (inn' tgt' col' : Bool), rule'.f1.length ≤ i + 1 + 1 → word'.size ≤ i + 1 + 1 →
              Ev (fun k => depfile_Parse.l0 k a0 out rule' word' inn' tgt' col' ((i : Int) + 1 + 1)) (go t' ((i : Int) + 1 + 1) out rule' word' inn' tgt' col') :=
            fun rule' word' inn' tgt' col' h2 h3 => ih t' (i + 1 + 1) out rule' word' inn' tgt' col' (by simp at htl; omega) ht' (by omega) (by omega) h2 h3
          dsimp only
          by_cases ce : escB d = false
          · rw [if_pos ce]; exact ev_ite_pos (.inr (he.trans ce)) (ev_const rfl)
          rw [if_neg ce]
          refine ev_ite_neg (fun h => h.elim (by omega) (fun h => ce (he.symm.trans h))) ?_
          by_cases cd : d = 10
          · rw [if_pos cd]; exact ev_ite_pos (d10.2 cd) (next2 _ _ _ _ _ (by omega) (by show 0 ≤ _; omega))
          rw [if_neg cd]
          refine ev_ite_neg (fun h => cd (d10.1 h)) ?_
          by_cases cw : inn = false ∧ tgt = true ∧ col = false
          · rw [if_pos cw]; exact ev_ite_pos cw (ev_const rfl)
          · rw [if_neg cw, ho2]; exact ev_ite_neg cw (next2 _ _ _ _ _ (by omega) (by rw [ByteArray.size_append, size_B]; simp; omega))
      rw [if_neg c92]
      refine ev_ite_neg (fun h => c92 (e92.1 h)) ?_
      have ho2 := oneB_u8 c
      rw [← hb] at ho2
      by_cases cw : inn = false ∧ tgt = true ∧ col = false
      · rw [if_pos cw]; exact ev_ite_pos cw (ev_const rfl)
      · rw [if_neg cw, ho2]; exact ev_ite_neg cw (next _ _ _ _ _ _ (by omega) (by omega) (by rw [ByteArray.size_append, size_B]; simp; omega))
theorem parse_ev (a0 : ByteArray) : Ev (fun k => depfile_Parse.f k a0) (parse (L a0)) := by
  unfold depfile_Parse.f parse
  have hsz : a0.size = (L a0).length := size_L a0
  by_cases h : 32768 < (L a0).length
  · rw [if_pos h]; exact ev_ite_pos (by omega) (ev_const rfl)
  · rw [if_neg h]
    exact ev_ite_neg (by omega) (go_ev a0 (by omega) _ (L a0) 0 [] z32 ⟨#[]⟩ false false false (Nat.le_refl _) rfl (Nat.zero_le _) (Nat.le_refl _) (by simp [z32]) (by show 0 ≤ _; omega))
end Go.Proofs.Ytahdgaaedilcmaa.Pl
/- Depfiles, plainly: two texts, one behind the other. -/
namespace Go.Proofs.Ytahdgaaedilcmaa.Pl
open Go.RowKit Go.Proofs.Ytahdgaaedilcmaa.P Go.Proofs.YtahdgaaedilcmaaW.PrintWords Go.Proofs.YtahdgaaedilcmaaW.PrintLast Go.Proofs.YtahdgaaedilcmaaW.PrintMore

/-- a text whose end does not reach over what follows: its last backslashes come in pairs -/
def okT : List UInt8 → Prop
  | [] => True
  | c :: t => if c = 92 then (match t with | [] => False | _ :: t' => okT t') else okT t
/-- what is told, other rules ahead of it -/
def ahead (o : List S32) (r : List S32 × Int × Int) : List S32 × Int × Int := if r.2.1 = 0 then (o ++ r.1, r.2.1, r.2.2) else r
/-- a wrong place, further on -/
def later (n : Int) (r : List S32 × Int × Int) : List S32 × Int × Int := if r.2.1 = 0 then r else (r.1, r.2.1, r.2.2 + n)
/-- rules that are there already stand ahead; a place is told from the beginning -/
theorem go_ahead : ∀ (n : Nat) (l : List UInt8), l.length ≤ n → ∀ (i j : Int) (o out : List S32) (rule : S32) (word : ByteArray) (inn tgt col : Bool),
    go l (i + j) (o ++ out) rule word inn tgt col = later j (ahead o (go l i out rule word inn tgt col)) := by
  intro n
  induction n with
  | zero =>
    intro l hl i j o out rule word inn tgt col
    obtain rfl := List.eq_nil_of_length_eq_zero (Nat.le_zero.1 hl)
    simp only [go]
    split
    · split
      · simp [ahead, later]
      · simp [ahead, later]
    · simp [ahead, later]
  | succ n ih =>
    intro l hl i j o out rule word inn tgt col
    cases l with
    | nil => exact ih [] (by simp) i j o out rule word inn tgt col
    | cons c t =>
      have ht : t.length ≤ n := by simp at hl; omega
      have w6 : ∀ x : Int, later j (ahead o ([], 6, x)) = ([], 6, x + j) := fun x => by simp [ahead, later]
      have e : i + j + 1 = (i + 1) + j := by omega
      have e2 : i + j + 1 + 1 = (i + 1 + 1) + j := by omega
      rw [go.eq_def, go.eq_def (c :: t) i]
      dsimp only
      split
      · split
        · split
          · exact (w6 _).symm
          · rw [List.append_assoc, e]; exact ih t ht ..
        · rw [e]; exact ih t ht ..
      split
      · exact (w6 _).symm
      split
      · rw [e]; exact ih t ht ..
      split
      · split
        · exact (w6 _).symm
        · rw [e]; exact ih t ht ..
      split
      · cases t with
        | nil => exact (w6 _).symm
        | cons d t' =>
          dsimp only
          split
          · exact (w6 _).symm
          split
          · rw [e2]; exact ih t' (by simp at ht; omega) ..
          split
          · exact (w6 _).symm
          · rw [e2]; exact ih t' (by simp at ht; omega) ..
      split
      · exact (w6 _).symm
      · rw [e]; exact ih t ht ..
/-- a step: a wrong place; a byte is read; or two are -/
theorem go_view (c : UInt8) (t : List UInt8) (rule : S32) (word : ByteArray) (inn tgt col : Bool) :
    (∀ s i out, go (c :: (t ++ s)) i out rule word inn tgt col = ([], 6, i)) ∨
    (c ≠ 92 ∧ ∃ (ext : List S32) (rule' : S32) (word' : ByteArray) (inn' tgt' col' : Bool), ext.length ≤ 1 ∧ (rule'.f1.length ≤ rule.f1.length + 1 ∧ ∀ r ∈ ext, r.f1.length ≤ rule.f1.length + 1) ∧ ∀ s i out, go (c :: (t ++ s)) i out rule word inn tgt col = go (t ++ s) (i + 1) (out ++ ext) rule' word' inn' tgt' col') ∨
    (c = 92 ∧ t = []) ∨
    (c = 92 ∧ ∃ d t', t = d :: t' ∧ ∃ (rule' : S32) (word' : ByteArray) (inn' tgt' col' : Bool), rule'.f1.length ≤ rule.f1.length + 1 ∧ ∀ s i out, go (c :: (t ++ s)) i out rule word inn tgt col = go (t' ++ s) (i + 1 + 1) out rule' word' inn' tgt' col') := by
  by_cases c10 : c = 10
  · have hn : c ≠ 92 := by rw [c10]; decide
    by_cases ct : closeTgt inn tgt col = true
    · by_cases cc : col = false
      · exact .inl fun s i out => by rw [go.eq_def]; dsimp only; rw [if_pos c10, if_pos ct, if_pos cc]
      · exact .inr (.inl ⟨hn, [closeRule rule word inn col], z32, ⟨#[]⟩, false, false, false, by simp, ⟨by simp [z32], fun r hr => by rw [List.mem_singleton.1 hr]; exact closeRule_len ..⟩, fun s i out => by rw [go.eq_def]; dsimp only; rw [if_pos c10, if_pos ct, if_neg cc]⟩)
    · exact .inr (.inl ⟨hn, [], z32, ⟨#[]⟩, false, false, false, by simp, ⟨by simp [z32], by simp⟩, fun s i out => by rw [go.eq_def]; dsimp only; rw [if_pos c10, if_neg ct, List.append_nil]⟩)
  by_cases cl : c.toNat < 32
  · exact .inl fun s i out => by rw [go.eq_def]; dsimp only; rw [if_neg c10, if_pos cl]
  by_cases c32 : c = 32
  · have hn : c ≠ 92 := by rw [c32]; decide
    exact .inr (.inl ⟨hn, [], closeRule rule word inn col, ⟨#[]⟩, false, closeTgt inn tgt col, col, by simp, ⟨closeRule_len .., by simp⟩, fun s i out => by rw [go.eq_def]; dsimp only; rw [if_neg c10, if_neg cl, if_pos c32, List.append_nil]⟩)
  by_cases c58 : c = 58
  · have hn : c ≠ 92 := by rw [c58]; decide
    by_cases cw : closeTgt inn tgt col = false ∨ col = true
    · exact .inl fun s i out => by rw [go.eq_def]; dsimp only; rw [if_neg c10, if_neg cl, if_neg c32, if_pos c58, if_pos cw]
    · exact .inr (.inl ⟨hn, [], closeRule rule word inn col, ⟨#[]⟩, false, closeTgt inn tgt col, true, by simp, ⟨closeRule_len .., by simp⟩, fun s i out => by rw [go.eq_def]; dsimp only; rw [if_neg c10, if_neg cl, if_neg c32, if_pos c58, if_neg cw, List.append_nil]⟩)
  by_cases c92 : c = 92
  · cases t with
    | nil => exact .inr (.inr (.inl ⟨c92, rfl⟩))
    | cons d t' =>
      by_cases ce : escB d = false
      · exact .inl fun s i out => by rw [go.eq_def]; dsimp only [List.cons_append]; rw [if_neg c10, if_neg cl, if_neg c32, if_neg c58, if_pos c92, if_pos ce]
      by_cases cd : d = 10
      · exact .inr (.inr (.inr ⟨c92, d, t', rfl, closeRule rule word inn col, ⟨#[]⟩, false, closeTgt inn tgt col, col, closeRule_len .., fun s i out => by rw [go.eq_def]; dsimp only [List.cons_append]; rw [if_neg c10, if_neg cl, if_neg c32, if_neg c58, if_pos c92, if_neg ce, if_pos cd]⟩))
      by_cases cw : inn = false ∧ tgt = true ∧ col = false
      · exact .inl fun s i out => by rw [go.eq_def]; dsimp only [List.cons_append]; rw [if_neg c10, if_neg cl, if_neg c32, if_neg c58, if_pos c92, if_neg ce, if_neg cd, if_pos cw]
      · exact .inr (.inr (.inr ⟨c92, d, t', rfl, rule, word ++ B [d], true, tgt, col, Nat.le_succ _, fun s i out => by rw [go.eq_def]; dsimp only [List.cons_append]; rw [if_neg c10, if_neg cl, if_neg c32, if_neg c58, if_pos c92, if_neg ce, if_neg cd, if_neg cw]⟩))
  by_cases cw : inn = false ∧ tgt = true ∧ col = false
  · exact .inl fun s i out => by rw [go.eq_def]; dsimp only; rw [if_neg c10, if_neg cl, if_neg c32, if_neg c58, if_neg c92, if_pos cw]
  · exact .inr (.inl ⟨c92, [], rule, word ++ B [c], true, tgt, col, by simp, ⟨Nat.le_succ _, by simp⟩, fun s i out => by rw [go.eq_def]; dsimp only; rw [if_neg c10, if_neg cl, if_neg c32, if_neg c58, if_neg c92, if_neg cw, List.append_nil]⟩)
/-- a text, an end of a line, a text -/
def Two (R S T : List S32 × Int × Int) : Prop := R = (if S.2.1 = 0 then T else S) ∧ (S.2.1 = 0 → S.2.2 = 0) ∧ (S.2.1 ≠ 0 → S.1 = [])
theorem two_wrong (i : Int) (T : List S32 × Int × Int) : Two ([], 6, i) ([], 6, i) T := by simp [Two]
theorem go_two : ∀ (n : Nat) (a : List UInt8), a.length ≤ n → okT a → ∀ (b : List UInt8) (i : Int) (out : List S32) (rule : S32) (word : ByteArray) (inn tgt col : Bool),
    Two (go (a ++ 10 :: b) i out rule word inn tgt col) (go (a ++ [10]) i out rule word inn tgt col) (go b (i + a.length + 1) (go (a ++ [10]) i out rule word inn tgt col).1 z32 ⟨#[]⟩ false false false) := by
  intro n
  have base : ∀ (b : List UInt8) (i : Int) (out : List S32) (rule : S32) (word : ByteArray) (inn tgt col : Bool),
    Two (go (10 :: b) i out rule word inn tgt col) (go [10] i out rule word inn tgt col) (go b (i + (([] : List UInt8).length : Int) + 1) (go [10] i out rule word inn tgt col).1 z32 ⟨#[]⟩ false false false) := by
    intro b i out rule word inn tgt col
    have hend : ∀ (i : Int) (o : List S32), go [] i o z32 ⟨#[]⟩ false false false = (o, 0, 0) := fun i o => rfl
    rw [go.eq_def (10 :: b), go.eq_def [10]]
    simp only [if_true, hend]
    unfold Two
    split
    · split
      · simp
      · simp
    · simp
  induction n with
  | zero =>
    intro a ha hk b i out rule word inn tgt col
    obtain rfl := List.eq_nil_of_length_eq_zero (Nat.le_zero.1 ha)
    exact base b i out rule word inn tgt col
  | succ n ih =>
    intro a ha hk b i out rule word inn tgt col
    cases a with
    | nil => exact base b i out rule word inn tgt col
    | cons c t =>
      have ht : t.length ≤ n := by simp at ha; omega
      rw [show (c :: t) ++ 10 :: b = c :: (t ++ 10 :: b) from rfl, show (c :: t) ++ [10] = c :: (t ++ [10]) from rfl]
      unfold okT at hk
      rcases go_view c t rule word inn tgt col with h | ⟨hc, ext, rule', word', inn', tgt', col', hx, hy, h⟩ | ⟨hc, rfl⟩ | ⟨hc, d, t', rfl, rule', word', inn', tgt', col', hy, h⟩
      · rw [h, h]; exact two_wrong _ _
      · rw [if_neg hc] at hk
        rw [h, h, show i + ((c :: t).length : Int) + 1 = i + 1 + (t.length : Int) + 1 by simp; omega]
        exact ih t ht hk b (i + 1) (out ++ ext) rule' word' inn' tgt' col'
      · rw [if_pos hc] at hk; exact hk.elim
      · rw [if_pos hc] at hk
        rw [h, h, show i + ((c :: d :: t').length : Int) + 1 = i + 1 + 1 + (t'.length : Int) + 1 by simp; omega]
        exact ih t' (by simp at ht; omega) hk b (i + 1 + 1) out rule' word' inn' tgt' col'
end Go.Proofs.Ytahdgaaedilcmaa.Pl
/- Depfiles, plainly: bounds of what is told; lists that are the same; the guard. -/
namespace Go.Proofs.Ytahdgaaedilcmaa.Pl
open Go.RowKit Go.Proofs.Ytahdgaaedilcmaa.P Go.Proofs.YtahdgaaedilcmaaW.PrintWords Go.Proofs.YtahdgaaedilcmaaW.PrintLast Go.Proofs.YtahdgaaedilcmaaW.PrintMore

/-- what is told of a text: no wrong place and rules; or a wrong place within it, and none -/
def Told (i n m : Int) (R : List S32 × Int × Int) : Prop := (R.2.1 = 0 ∧ R.2.2 = 0 ∧ (R.1.length : Int) ≤ m) ∨ (R.2.1 = 6 ∧ i ≤ R.2.2 ∧ R.2.2 ≤ i + n ∧ R.1 = [])
theorem go_told : ∀ (n : Nat) (l : List UInt8), l.length ≤ n → ∀ (i : Int) (out : List S32) (rule : S32) (word : ByteArray) (inn tgt col : Bool) (j : Int) (m : Int), j ≤ i → (out.length : Int) + l.length + 1 ≤ m →
    Told j (i - j + l.length) m (go l i out rule word inn tgt col) := by
  intro n
  induction n using Nat.strongRecOn with
  | _ n ih =>
    intro l hl i out rule word inn tgt col j m hj hm
    cases l with
    | nil =>
      simp only [go]
      split
      · split
        · exact .inr ⟨rfl, hj, by simp; omega, rfl⟩
        · exact .inl ⟨rfl, rfl, by simp at hm ⊢; omega⟩
      · exact .inl ⟨rfl, rfl, by simp at hm ⊢; omega⟩
    | cons c t =>
      have hw : ∀ x, x = i → Told j (i - j + ((c :: t).length : Int)) m ([], 6, x) := fun x hx => .inr ⟨rfl, by show j ≤ x; omega, by show x ≤ _; simp; omega, rfl⟩
      rcases go_view c t rule word inn tgt col with h | ⟨hc, ext, rule', word', inn', tgt', col', hx, hy, h⟩ | ⟨rfl, rfl⟩ | ⟨hc, d, t', rfl, rule', word', inn', tgt', col', hy, h⟩
      · have := h [] i out; rw [List.append_nil] at this; rw [this]; exact hw _ rfl
      · have := h [] i out; rw [List.append_nil] at this; rw [this]
        have := ih t.length (by simp at hl; omega) t (Nat.le_refl _) (i + 1) (out ++ ext) rule' word' inn' tgt' col' j m (by omega) (by simp at hm ⊢; omega)
        rw [show i - j + ((c :: t).length : Int) = i + 1 - j + (t.length : Int) by simp; omega]
        exact this
      · exact hw _ rfl
      · have := h [] i out; rw [List.append_nil, List.append_nil] at this; rw [this]
        have := ih t'.length (by simp at hl; omega) t' (Nat.le_refl _) (i + 1 + 1) out rule' word' inn' tgt' col' j m (by omega) (by simp at hm ⊢; omega)
        rw [show i - j + ((c :: d :: t').length : Int) = i + 1 + 1 - j + (t'.length : Int) by simp; omega]
        exact this
theorem go_deps (M : Nat) : ∀ (n : Nat) (l : List UInt8), l.length ≤ n → ∀ (i : Int) (out : List S32) (rule : S32) (word : ByteArray) (inn tgt col : Bool), (∀ r ∈ out, r.f1.length ≤ M) → rule.f1.length + l.length + 1 ≤ M →
    ∀ r ∈ (go l i out rule word inn tgt col).1, r.f1.length ≤ M := by
  intro n
  induction n using Nat.strongRecOn with
  | _ n ih =>
    intro l hl i out rule word inn tgt col ho hm
    cases l with
    | nil =>
      have hcr := closeRule_len rule word inn col
      simp only [go]
      split
      · split
        · intro r hr; cases hr
        · intro r hr
          rcases List.mem_append.1 hr with h | h
          · exact ho r h
          · rw [List.mem_singleton.1 h]; simp at hm; omega
      · exact ho
    | cons c t =>
      have hw : ∀ x : Int, ∀ r ∈ (([] : List S32), (6 : Int), x).1, r.f1.length ≤ M := fun x r hr => by cases hr
      rcases go_view c t rule word inn tgt col with h | ⟨hc, ext, rule', word', inn', tgt', col', hx, hy, h⟩ | ⟨rfl, rfl⟩ | ⟨hc, d, t', rfl, rule', word', inn', tgt', col', hy, h⟩
      · have := h [] i out; rw [List.append_nil] at this; rw [this]; exact hw _
      · have := h [] i out; rw [List.append_nil] at this; rw [this]
        refine ih t.length (by simp at hl; omega) t (Nat.le_refl _) (i + 1) (out ++ ext) rule' word' inn' tgt' col' (fun r hr => ?_) (by simp at hm; omega)
        rcases List.mem_append.1 hr with h | h
        · exact ho r h
        · have := hy.2 r h; simp at hm; omega
      · exact hw _
      · have := h [] i out; rw [List.append_nil, List.append_nil] at this; rw [this]
        exact ih t'.length (by simp at hl; omega) t' (Nat.le_refl _) (i + 1 + 1) out rule' word' inn' tgt' col' ho (by simp at hm; omega)
theorem texts_refl (l : List ByteArray) (hl : l.length < 1000000000) : Ev (fun k => brickyardref16_Texts.f k l l) true := by
  have h0 : ∀ (d i : Nat), i + d = l.length → Ev (fun k => brickyardref16_Texts.l0 k l l (i : Int)) true := by
    intro d
    induction d with
    | zero =>
      intro i hi
      refine ev_succ ?_
      simp only [brickyardref16_Texts.l0]
      exact ev_ite_neg (by omega) (ev_const rfl)
    | succ d ih =>
      intro i hi
      refine ev_succ ?_
      simp only [brickyardref16_Texts.l0]
      refine ev_ite_pos (by omega) (ev_ite_pos (by omega) (ev_ite_pos (by omega) (ev_ite_pos (by trivial) ?_)))
      rw [show wrap64 ((i : Int) + 1) = ((i + 1 : Nat) : Int) by rw [w64 (by omega) (by omega)]; rfl]
      exact ih (i + 1) (by omega)
  unfold brickyardref16_Texts.f
  exact ev_ite_pos rfl (h0 l.length 0 (by omega))
theorem same_refl (l : List S32) (hl : l.length < 1000000000) (hd : ∀ r ∈ l, r.f1.length < 1000000000) : Ev (fun k => brickyardref16_Same.f k l l) true := by
  have h0 : ∀ (d i : Nat), i + d = l.length → Ev (fun k => brickyardref16_Same.l0 k l l (i : Int)) true := by
    intro d
    induction d with
    | zero =>
      intro i hi
      refine ev_succ ?_
      simp only [brickyardref16_Same.l0]
      exact ev_ite_neg (by omega) (ev_const rfl)
    | succ d ih =>
      intro i hi
      refine ev_succ ?_
      simp only [brickyardref16_Same.l0]
      refine ev_ite_pos (by omega) (ev_ite_pos (by omega) (ev_ite_pos (by omega) (ev_ite_pos (by trivial) ?_)))
      have hm : rd_T32 l (i : Int) ∈ l := by
        unfold rd_T32
        rw [Int.toNat_natCast, List.getD_eq_getElem?_getD, List.getElem?_eq_getElem (by omega)]
        exact List.getElem_mem _
      refine ev_bind (texts_refl _ (hd _ hm)) (ev_ite_pos rfl ?_)
      rw [show wrap64 ((i : Int) + 1) = ((i + 1 : Nat) : Int) by rw [w64 (by omega) (by omega)]; rfl]
      exact ih (i + 1) (by omega)
  unfold brickyardref16_Same.f
  exact ev_ite_pos rfl (h0 l.length 0 (by omega))
theorem works_ev : Ev (fun k => brickyardlaw16_works.f k) true := by
  have e : parse (L (⟨#[97, 46, 111, 58, 32, 97, 46, 99, 32, 92, 10, 32, 104, 10]⟩ : ByteArray)) = ([⟨B [97, 46, 111], [B [97, 46, 99], B [104]]⟩], 0, 0) := by rfl
  unfold brickyardlaw16_works.f
  refine ev_bind (parse_ev _) (ev_const ?_)
  rw [e]
  simp only [toList_L]
  rfl
end Go.Proofs.Ytahdgaaedilcmaa.Pl
