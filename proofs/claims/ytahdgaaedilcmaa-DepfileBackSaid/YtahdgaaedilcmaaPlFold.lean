/- Folded: PlBack, PlPrint, PlFold. -/
import Derived.Test.YtahdgaaedilcmaaPlDepU
import Derived.Test.YtahdgaaedilcmaaGWrit
import Derived.Test.YtahdgaaedilcmaaPxf25
import Derived.Test.YtahdgaaedilcmaaPxf48
/- Depfiles, plainly: rules as a text; what is written is read as it was. -/
namespace Go.Proofs.Ytahdgaaedilcmaa.Pl
open Go.RowKit Go.Proofs.Ytahdgaaedilcmaa.P Go.Proofs.YtahdgaaedilcmaaW.PrintWords Go.Proofs.YtahdgaaedilcmaaW.PrintLast Go.Proofs.YtahdgaaedilcmaaW.PrintMore

/-- a byte as it is written -/
def escC (c : UInt8) : List UInt8 := if c = 92 ∨ c = 32 ∨ c = 58 then [92, c] else [c]
/-- bytes as they are written -/
def escL : List UInt8 → List UInt8
  | [] => []
  | c :: t => escC c ++ escL t
def escT (s : ByteArray) : ByteArray := B (escL (L s))
/-- may a word be? -/
def mayB (s : ByteArray) : Bool := decide (L s ≠ []) && (L s).all fun c => decide (32 ≤ c.toNat)
theorem mayB_iff (s : ByteArray) : mayB s = true ↔ L s ≠ [] ∧ ∀ c ∈ L s, 32 ≤ c.toNat := by
  unfold mayB
  rw [Bool.and_eq_true, decide_eq_true_iff, List.all_eq_true]
  simp only [decide_eq_true_eq]
def depsT (short : Bool) (width : Int) : List ByteArray → ByteArray → ByteArray → Option (ByteArray × ByteArray)
  | [], b, line => some (b, line)
  | d :: t, b, line =>
    if mayB d = true then
      (if short = true ∧ width < (line.size : Int) + 1 + ((escT d).size : Int) then depsT short width t (b ++ (line ++ B [32, 92, 10])) (B [32, 32] ++ escT d)
       else depsT short width t b (line ++ (B [32] ++ escT d)))
    else none
def rulesT (short : Bool) (width : Int) : List S32 → ByteArray → Option ByteArray
  | [], b => some b
  | r :: t, b =>
    if mayB r.f0 = true then
      (match depsT short width r.f1 b (escT r.f0 ++ B [58]) with
       | none => none
       | some (b', line) => rulesT short width t (b' ++ (line ++ B [10])))
    else none
/-- rules as a text, or the error of what may not be -/
def toldT (short : Bool) (width : Int) (l : List S32) : ByteArray × Int := match rulesT short width l (B []) with | some b => (b, 0) | none => (B [], 2)

theorem step_read (c : UInt8) (hc : 32 ≤ c.toNat) (rest : List UInt8) (i : Int) (out : List S32) (rule : S32) (word : ByteArray) (inn tgt col : Bool) (hn : ¬ (inn = false ∧ tgt = true ∧ col = false)) :
    go (escC c ++ rest) i out rule word inn tgt col = go rest (i + (escC c).length) out rule (word ++ B [c]) true tgt col := by
  unfold escC
  by_cases he : c = 92 ∨ c = 32 ∨ c = 58
  · rw [if_pos he]
    have hne : c ≠ 10 := by rcases he with rfl | rfl | rfl <;> decide
    have hes : escB c = true := by rcases he with rfl | rfl | rfl <;> decide
    rw [List.cons_append, List.cons_append, List.nil_append, go.eq_def]
    dsimp only
    rw [if_neg (by decide), if_neg (by decide), if_neg (by decide), if_neg (by decide), if_pos rfl, if_neg (by rw [hes]; decide), if_neg hne, if_neg hn]
    congr 1
    simp; omega
  · rw [if_neg he, List.cons_append, List.nil_append, go.eq_def]
    have h92 : c ≠ 92 := fun h => he (.inl h)
    have h32 : c ≠ 32 := fun h => he (.inr (.inl h))
    have h58 : c ≠ 58 := fun h => he (.inr (.inr h))
    have h10 : c ≠ 10 := fun h => by rw [h] at hc; revert hc; decide
    dsimp only
    rw [if_neg h10, if_neg (by omega), if_neg h32, if_neg h58, if_neg h92, if_neg hn]
    rfl
theorem word_in : ∀ (x : List UInt8), (∀ c ∈ x, 32 ≤ c.toNat) → ∀ (rest : List UInt8) (i : Int) (out : List S32) (rule : S32) (word : ByteArray) (tgt col : Bool),
    go (escL x ++ rest) i out rule word true tgt col = go rest (i + (escL x).length) out rule (word ++ B x) true tgt col
  | [], _, rest, i, out, rule, word, tgt, col => by
    have : word ++ B [] = word := L_inj (by rw [L_append, L_B, List.append_nil])
    rw [this]
    simp [escL]
  | c :: t, h, rest, i, out, rule, word, tgt, col => by
    rw [escL, List.append_assoc, step_read c (h c List.mem_cons_self) _ _ _ _ _ _ _ _ (fun e => by cases e.1), word_in t (fun d hd => h d (List.mem_cons_of_mem _ hd))]
    have e : word ++ B [c] ++ B t = word ++ B (c :: t) := L_inj (by simp [L_append, L_B])
    rw [e, List.length_append]
    congr 1
    omega
theorem word_read (s : ByteArray) (hm : mayB s = true) (rest : List UInt8) (i : Int) (out : List S32) (rule : S32) (inn tgt col : Bool) (hn : ¬ (inn = false ∧ tgt = true ∧ col = false)) :
    go (L (escT s) ++ rest) i out rule ⟨#[]⟩ inn tgt col = go rest (i + (L (escT s)).length) out rule s true tgt col := by
  obtain ⟨h1, h2⟩ := (mayB_iff s).1 hm
  unfold escT
  rw [L_B]
  have hs : s = B (L s) := (B_L s).symm
  generalize L s = x at hs h1 h2
  subst hs
  cases x with
  | nil => exact absurd rfl h1
  | cons c t =>
    rw [escL, List.append_assoc, step_read c (h2 c List.mem_cons_self) _ _ _ _ _ _ _ _ hn, word_in t (fun d hd => h2 d (List.mem_cons_of_mem _ hd))]
    have e : (⟨#[]⟩ : ByteArray) ++ B [c] ++ B t = B (c :: t) := L_inj (by rw [L_append, L_append, L_B, L_B, L_B]; rfl)
    rw [e, List.length_append]
    congr 1
    omega
/-- a whole line was read -/
def Line (T : List UInt8) (out : List S32) : Prop := ∀ rest, go (T ++ rest) 0 [] z32 ⟨#[]⟩ false false false = go rest T.length out z32 ⟨#[]⟩ false false false
/-- a line is being read: its rule so far -/
def At (T : List UInt8) (out : List S32) (r : S32) : Prop := ∃ rule word inn, closeRule rule word inn true = r ∧ ∀ rest, go (T ++ rest) 0 [] z32 ⟨#[]⟩ false false false = go rest T.length out rule word inn true true
theorem Line.nil : Line [] [] := fun rest => by simp
theorem Line.target {T : List UInt8} {out : List S32} (h : Line T out) {t : ByteArray} (hm : mayB t = true) : At (T ++ (L (escT t) ++ [58])) out ⟨t, []⟩ := by
  refine ⟨⟨t, []⟩, ⟨#[]⟩, false, rfl, fun rest => ?_⟩
  rw [List.append_assoc, h, List.append_assoc, word_read t hm _ _ _ _ _ _ _ (fun e => by cases e.2.1), List.cons_append, List.nil_append, go.eq_def]
  dsimp only
  rw [if_neg (by decide), if_neg (by decide), if_neg (by decide), if_pos rfl, if_neg (by decide)]
  simp only [closeRule, closeTgt, z32, List.length_append, List.length_singleton, Bool.true_and, Bool.false_eq_true, if_false, if_true, Bool.and_false, Bool.not_false, Bool.or_true]
  first | done | (congr 1; done) | ((congr 1; simp) <;> omega)
theorem At.dep {T : List UInt8} {out : List S32} {r : S32} (h : At T out r) {d : ByteArray} (hm : mayB d = true) : At (T ++ (32 :: L (escT d))) out ⟨r.f0, r.f1 ++ [d]⟩ := by
  obtain ⟨rule, word, inn, hr, h⟩ := h
  refine ⟨r, d, true, rfl, fun rest => ?_⟩
  rw [List.append_assoc, h, List.cons_append, go.eq_def]
  dsimp only
  rw [if_neg (by decide), if_neg (by decide), if_pos rfl, hr, word_read d hm _ _ _ _ _ _ _ (fun e => by cases e.2.2)]
  simp only [closeTgt, Bool.true_or]
  congr 1
  simp; omega
theorem At.fold {T : List UInt8} {out : List S32} {r : S32} (h : At T out r) {d : ByteArray} (hm : mayB d = true) : At (T ++ ([32, 92, 10] ++ ([32, 32] ++ L (escT d)))) out ⟨r.f0, r.f1 ++ [d]⟩ := by
  obtain ⟨rule, word, inn, hr, h⟩ := h
  refine ⟨r, d, true, rfl, fun rest => ?_⟩
  have hcl : closeRule r ⟨#[]⟩ false true = r := rfl
  rw [List.append_assoc, h]
  simp only [List.cons_append, List.nil_append]
  rw [go.eq_def]
  dsimp only
  rw [if_neg (by decide), if_neg (by decide), if_pos rfl, hr, go.eq_def]
  dsimp only
  rw [if_neg (by decide), if_neg (by decide), if_neg (by decide), if_neg (by decide), if_pos rfl, if_neg (by decide), if_pos rfl, hcl, go.eq_def]
  dsimp only
  rw [if_neg (by decide), if_neg (by decide), if_pos rfl, hcl, go.eq_def]
  dsimp only
  rw [if_neg (by decide), if_neg (by decide), if_pos rfl, hcl, word_read d hm _ _ _ _ _ _ _ (fun e => by cases e.2.2)]
  simp only [closeTgt, Bool.true_or]
  congr 1
  simp; omega
theorem At.line {T : List UInt8} {out : List S32} {r : S32} (h : At T out r) : Line (T ++ [10]) (out ++ [r]) := by
  obtain ⟨rule, word, inn, hr, h⟩ := h
  intro rest
  rw [List.append_assoc, h, List.cons_append, List.nil_append, go.eq_def]
  dsimp only
  rw [if_pos rfl, if_pos (by simp [closeTgt]), if_neg (by decide), hr]
  congr 1
  simp
theorem Line.read {T : List UInt8} {out : List S32} (h : Line T out) : go T 0 [] z32 ⟨#[]⟩ false false false = (out, 0, 0) := by
  have := h []
  rw [List.append_nil] at this
  rw [this]
  rfl
theorem deps_at (short : Bool) (width : Int) (out : List S32) : ∀ (l : List ByteArray) (b line : ByteArray) (r : S32) (b' line' : ByteArray), At (L b ++ L line) out r → depsT short width l b line = some (b', line') → At (L b' ++ L line') out ⟨r.f0, r.f1 ++ l⟩
  | [], b, line, r, b', line', h, he => by
    simp only [depsT, Option.some.injEq, Prod.mk.injEq] at he
    rw [← he.1, ← he.2, List.append_nil]
    exact h
  | d :: t, b, line, r, b', line', h, he => by
    rw [depsT] at he
    by_cases hm : mayB d = true
    · rw [if_pos hm] at he
      have fin : ∀ (b1 line1 : ByteArray), At (L b1 ++ L line1) out ⟨r.f0, r.f1 ++ [d]⟩ → depsT short width t b1 line1 = some (b', line') → At (L b' ++ L line') out ⟨r.f0, r.f1 ++ d :: t⟩ := fun b1 line1 h1 e1 => by
        have := deps_at short width out t b1 line1 _ b' line' h1 e1
        rwa [List.append_assoc, List.singleton_append] at this
      by_cases hw : short = true ∧ width < (line.size : Int) + 1 + ((escT d).size : Int)
      · rw [if_pos hw] at he
        refine fin _ _ ?_ he
        have := h.fold hm
        simpa only [L_append, L_B, List.append_assoc] using this
      · rw [if_neg hw] at he
        refine fin _ _ ?_ he
        have := h.dep hm
        simpa only [L_append, L_B, List.append_assoc, List.cons_append, List.nil_append] using this
    · rw [if_neg hm] at he
      cases he
theorem rules_line (short : Bool) (width : Int) : ∀ (l : List S32) (b b' : ByteArray) (out : List S32), Line (L b) out → rulesT short width l b = some b' → Line (L b') (out ++ l)
  | [], b, b', out, h, he => by
    simp only [rulesT, Option.some.injEq] at he
    rw [← he, List.append_nil]
    exact h
  | r :: t, b, b', out, h, he => by
    rw [rulesT] at he
    by_cases hm : mayB r.f0 = true
    · rw [if_pos hm] at he
      cases hd : depsT short width r.f1 b (escT r.f0 ++ B [58]) with
      | none => rw [hd] at he; cases he
      | some p =>
        obtain ⟨b1, line1⟩ := p
        rw [hd] at he
        dsimp only at he
        have h1 := deps_at short width out r.f1 b _ ⟨r.f0, []⟩ b1 line1 (by rw [L_append, L_B]; exact h.target hm) hd
        have h2 := h1.line
        have := rules_line short width t _ b' (out ++ [r]) (by simpa only [L_append, L_B, List.append_assoc, List.nil_append] using h2) he
        rwa [List.append_assoc, List.singleton_append] at this
    · rw [if_neg hm] at he
      cases he
/-- what is written is read as it was -/
theorem told_read {short : Bool} {width : Int} {l : List S32} (h : (toldT short width l).2 = 0) : parse (L (toldT short width l).1) = if 32768 < (L (toldT short width l).1).length then ([], 3, 32768) else (l, 0, 0) := by
  unfold toldT at h ⊢
  cases hr : rulesT short width l (B []) with
  | none => rw [hr] at h; cases h
  | some b =>
    have := rules_line short width l (B []) b [] (by rw [L_B]; exact Line.nil) hr
    unfold parse
    dsimp only
    rw [this.read]
    rfl
theorem told_or (short : Bool) (width : Int) (l : List S32) : (toldT short width l).2 = 0 ∨ toldT short width l = (B [], 2) := by
  unfold toldT
  cases rulesT short width l (B []) with
  | none => exact .inr rfl
  | some b => exact .inl rfl
/-- may all words of a rule be? -/
def MayR (r : S32) : Prop := mayB r.f0 = true ∧ ∀ d ∈ r.f1, mayB d = true
theorem deps_may (short : Bool) (width : Int) : ∀ (l : List ByteArray) (b line : ByteArray), (depsT short width l b line ≠ none ↔ ∀ d ∈ l, mayB d = true)
  | [], b, line => by simp [depsT]
  | d :: t, b, line => by
    rw [depsT]
    by_cases hm : mayB d = true
    · rw [if_pos hm]
      have : ∀ b1 line1, (depsT short width t b1 line1 ≠ none ↔ ∀ x ∈ d :: t, mayB x = true) := fun b1 line1 => by rw [deps_may short width t b1 line1]; simp [hm]
      split
      · exact this _ _
      · exact this _ _
    · rw [if_neg hm]
      simp [hm]
theorem rules_may (short : Bool) (width : Int) : ∀ (l : List S32) (b : ByteArray), (rulesT short width l b ≠ none ↔ ∀ r ∈ l, MayR r)
  | [], b => by simp [rulesT]
  | r :: t, b => by
    rw [rulesT]
    by_cases hm : mayB r.f0 = true
    · rw [if_pos hm]
      have hd := deps_may short width r.f1 b (escT r.f0 ++ B [58])
      cases he : depsT short width r.f1 b (escT r.f0 ++ B [58]) with
      | none =>
        rw [he] at hd
        have : ¬ ∀ d ∈ r.f1, mayB d = true := fun h => hd.2 h rfl
        simp [MayR, hm]
        intro h
        exact absurd h this
      | some p =>
        rw [he] at hd
        have h1 := hd.1 (by simp)
        dsimp only
        rw [rules_may short width t _]
        constructor
        · intro h x hx
          rcases List.mem_cons.1 hx with rfl | hx
          · exact ⟨hm, h1⟩
          · exact h x hx
        · exact fun h x hx => h x (List.mem_cons_of_mem _ hx)
    · rw [if_neg hm]
      simp [MayR, hm]
theorem told_may {short : Bool} {width : Int} {l : List S32} (h : ∀ r ∈ l, MayR r) : (toldT short width l).2 = 0 := by
  have := (rules_may short width l (B [])).2 h
  unfold toldT
  cases hr : rulesT short width l (B []) with
  | none => exact absurd hr this
  | some b => rfl
/-- what is read may be -/
theorem mayB_snoc {word : ByteArray} {c : UInt8} (hw : ∀ x ∈ L word, 32 ≤ x.toNat) (hc : 32 ≤ c.toNat) : mayB (word ++ B [c]) = true := by
  rw [mayB_iff, L_append, L_B]
  refine ⟨by simp, fun x hx => ?_⟩
  rcases List.mem_append.1 hx with h | h
  · exact hw x h
  · rw [List.mem_singleton.1 h]; exact hc
structure OkSt (out : List S32) (rule : S32) (word : ByteArray) (inn tgt : Bool) : Prop where
  pOut : ∀ r ∈ out, MayR r
  pTg : tgt = true → mayB rule.f0 = true
  pDeps : ∀ d ∈ rule.f1, mayB d = true
  pWord : ∀ x ∈ L word, 32 ≤ x.toNat
  pInn : inn = true → mayB word = true
theorem OkSt.close {out : List S32} {rule : S32} {word : ByteArray} {inn tgt col : Bool} (h : OkSt out rule word inn tgt) : OkSt out (closeRule rule word inn col) ⟨#[]⟩ false (closeTgt inn tgt col) := by
  refine ⟨h.pOut, fun ht => ?_, fun d hd => ?_, fun x hx => by simp [L] at hx, fun e => by cases e⟩
  · unfold closeRule closeTgt at *
    cases inn <;> cases col <;> simp at ht ⊢
    · exact h.pTg ht
    · exact h.pTg ht
    · exact h.pInn rfl
    · exact h.pTg ht
  · unfold closeRule at hd
    cases inn <;> cases col <;> simp at hd
    · exact h.pDeps d hd
    · exact h.pDeps d hd
    · exact h.pDeps d hd
    · rcases hd with hd | rfl
      · exact h.pDeps d hd
      · exact h.pInn rfl
theorem OkSt.byte {out : List S32} {rule : S32} {word : ByteArray} {inn tgt : Bool} (h : OkSt out rule word inn tgt) {c : UInt8} (hc : 32 ≤ c.toNat) : OkSt out rule (word ++ B [c]) true tgt := by
  refine ⟨h.pOut, h.pTg, h.pDeps, fun x hx => ?_, fun _ => mayB_snoc h.pWord hc⟩
  rw [L_append, L_B] at hx
  rcases List.mem_append.1 hx with h1 | h1
  · exact h.pWord x h1
  · rw [List.mem_singleton.1 h1]; exact hc
theorem OkSt.push {out : List S32} {rule : S32} {word : ByteArray} {inn tgt col : Bool} (h : OkSt out rule word inn tgt) (hc : closeTgt inn tgt col = true) : ∀ r ∈ out ++ [closeRule rule word inn col], MayR r := by
  intro r hr
  rcases List.mem_append.1 hr with h1 | h1
  · exact h.pOut r h1
  · rw [List.mem_singleton.1 h1]
    have := h.close (col := col)
    exact ⟨this.pTg hc, this.pDeps⟩
theorem OkSt.start {out : List S32} (h : ∀ r ∈ out, MayR r) : OkSt out z32 ⟨#[]⟩ false false := ⟨h, (fun e => by cases e), (fun d hd => by simp [z32] at hd), (fun x hx => by simp [L] at hx), (fun e => by cases e)⟩
theorem go_may : ∀ (n : Nat) (l : List UInt8), l.length ≤ n → ∀ (i : Int) (out : List S32) (rule : S32) (word : ByteArray) (inn tgt col : Bool), OkSt out rule word inn tgt → ∀ r ∈ (go l i out rule word inn tgt col).1, MayR r := by
  intro n
  have hnil : ∀ (i : Int) (out : List S32) (rule : S32) (word : ByteArray) (inn tgt col : Bool), OkSt out rule word inn tgt → ∀ r ∈ (go [] i out rule word inn tgt col).1, MayR r := by
    intro i out rule word inn tgt col h
    simp only [go]
    split
    · split
      · intro r hr; cases hr
      · exact h.push (by assumption)
    · exact h.pOut
  have hbad : ∀ i : Int, ∀ r ∈ (([] : List S32), (6 : Int), i).1, MayR r := fun i r hr => by cases hr
  induction n with
  | zero =>
    intro l hl i out rule word inn tgt col h
    obtain rfl := List.eq_nil_of_length_eq_zero (Nat.le_zero.1 hl)
    exact hnil i out rule word inn tgt col h
  | succ n ih =>
    intro l hl i out rule word inn tgt col h
    cases l with
    | nil => exact hnil i out rule word inn tgt col h
    | cons c t =>
      have ht : t.length ≤ n := by simp at hl; omega
      rw [go.eq_def]
      dsimp only
      by_cases c10 : c = 10
      · rw [if_pos c10]
        by_cases ct : closeTgt inn tgt col = true
        · rw [if_pos ct]
          by_cases cc : col = false
          · rw [if_pos cc]; exact hbad i
          · rw [if_neg cc]; exact ih t ht _ _ _ _ _ _ _ (.start (h.push ct))
        · rw [if_neg ct]; exact ih t ht _ _ _ _ _ _ _ (.start h.pOut)
      rw [if_neg c10]
      by_cases cl : c.toNat < 32
      · rw [if_pos cl]; exact hbad i
      rw [if_neg cl]
      by_cases c32 : c = 32
      · rw [if_pos c32]; exact ih t ht _ _ _ _ _ _ _ h.close
      rw [if_neg c32]
      by_cases c58 : c = 58
      · rw [if_pos c58]
        by_cases cw : closeTgt inn tgt col = false ∨ col = true
        · rw [if_pos cw]; exact hbad i
        · rw [if_neg cw]; exact ih t ht _ _ _ _ _ _ _ h.close
      rw [if_neg c58]
      by_cases c92 : c = 92
      · rw [if_pos c92]
        cases t with
        | nil => exact hbad i
        | cons d t' =>
          have ht' : t'.length ≤ n := by simp at ht; omega
          dsimp only
          by_cases de : escB d = false
          · rw [if_pos de]; exact hbad i
          rw [if_neg de]
          by_cases d10 : d = 10
          · rw [if_pos d10]; exact ih t' ht' _ _ _ _ _ _ _ h.close
          rw [if_neg d10]
          by_cases cw : inn = false ∧ tgt = true ∧ col = false
          · rw [if_pos cw]; exact hbad i
          · rw [if_neg cw]
            refine ih t' ht' _ _ _ _ _ _ _ (h.byte ?_)
            have : d = 32 ∨ d = 58 ∨ d = 92 := by
              unfold escB at de
              simp only [Bool.or_eq_false_iff, beq_eq_false_iff_ne, ne_eq, not_and, Classical.not_not] at de
              by_cases h1 : d = 32
              · exact .inl h1
              · by_cases h2 : d = 58
                · exact .inr (.inl h2)
                · exact .inr (.inr (de ⟨⟨d10, h1⟩, h2⟩))
            rcases this with rfl | rfl | rfl <;> decide
      rw [if_neg c92]
      by_cases cw : inn = false ∧ tgt = true ∧ col = false
      · rw [if_pos cw]; exact hbad i
      · rw [if_neg cw]; exact ih t ht _ _ _ _ _ _ _ (h.byte (by omega))
theorem parse_may (l : List UInt8) : ∀ r ∈ (parse l).1, MayR r := by
  unfold parse
  split
  · intro r hr; cases hr
  · exact go_may _ l (Nat.le_refl _) _ _ _ _ _ _ _ (.start (fun r hr => by cases hr))
end Go.Proofs.Ytahdgaaedilcmaa.Pl
/- Depfiles, plainly: the document's text of rules is the program's one. -/
namespace Go.Proofs.Ytahdgaaedilcmaa.Pl
open Go.RowKit Go.Proofs.Ytahdgaaedilcmaa.P Go.Proofs.YtahdgaaedilcmaaW.PrintWords Go.Proofs.YtahdgaaedilcmaaW.PrintLast Go.Proofs.YtahdgaaedilcmaaW.PrintMore

theorem escL_append (a b : List UInt8) : escL (a ++ b) = escL a ++ escL b := by
  induction a with
  | nil => rfl
  | cons c t ih => rw [List.cons_append, escL, escL, ih, List.append_assoc]
theorem escL_len (a : List UInt8) : (escL a).length ≤ 2 * a.length := by
  induction a with
  | nil => simp [escL]
  | cons c t ih =>
    rw [escL, List.length_append]
    have : (escC c).length ≤ 2 := by unfold escC; split <;> simp
    simp; omega
theorem escT_len (s : ByteArray) : (escT s).size ≤ 2 * s.size := by
  unfold escT
  rw [size_B, size_L]
  exact escL_len _
theorem u8_of (c : UInt8) : UInt8.ofNat ((c.toNat : Int)).toNat = c := by simp
theorem escS_T (s : ByteArray) : escS s = escT s := by
  have key : ∀ i, i ≤ s.size → (outN s i).map (fun n => UInt8.ofNat n.toNat) = escL ((L s).take i) := by
    intro i
    induction i with
    | zero => intro _; simp [outN, escL]
    | succ i ih =>
      intro hi
      have hl : i < (L s).length := by rw [← size_L]; omega
      rw [outN, List.take_succ_eq_append_getElem hl, escL_append, ← ih (by omega), bt_L s i hl]
      generalize (L s)[i]'hl = c
      have h92 : ((c.toNat : Int) = 92) ↔ c = 92 := ⟨fun e => UInt8.toNat.inj (by simp; omega), fun e => by rw [e]; rfl⟩
      have h32 : ((c.toNat : Int) = 32) ↔ c = 32 := ⟨fun e => UInt8.toNat.inj (by simp; omega), fun e => by rw [e]; rfl⟩
      have h58 : ((c.toNat : Int) = 58) ↔ c = 58 := ⟨fun e => UInt8.toNat.inj (by simp; omega), fun e => by rw [e]; rfl⟩
      unfold spc escL escC
      simp only [decide_eq_true_eq, h92, h32, h58]
      split
      · simp [escL]
      · simp [escL]
  unfold escS escT strOfNums B
  congr 1
  rw [key s.size (Nat.le_refl _), List.take_of_length_le (by rw [← size_L]; exact Nat.le_refl _)]
theorem may_l0 (a : ByteArray) (ha : a.size ≤ 9000000000) : ∀ d i : Nat, i + d = a.size → (∀ j (_ : j < i) (h' : j < (L a).length), 32 ≤ ((L a)[j]'h').toNat) → Ev (fun k => depfile_may.l0 k a (a.size : Int) (i : Int)) (mayB a) := by
  intro d
  have hsz : a.size = (L a).length := size_L a
  induction d with
  | zero =>
    intro i hi hj
    refine ev_succ ?_
    simp only [depfile_may.l0]
    refine ev_ite_neg (by omega) (ev_const ?_)
    congr 1
    rw [Bool.eq_iff_iff, mayB_iff, toList_L]
    constructor
    · intro h
      refine ⟨by simpa using h, fun c hc => ?_⟩
      obtain ⟨j, h', rfl⟩ := List.getElem_of_mem hc
      exact hj j (by omega) h'
    · intro h
      simpa using h.1
  | succ d ih =>
    intro i hi hj
    have hl : i < (L a).length := by omega
    refine ev_succ ?_
    simp only [depfile_may.l0]
    refine ev_ite_pos (by omega) (ev_ite_pos (by omega) (ev_ite_pos (by omega) ?_))
    rw [bt_L a i hl]
    by_cases hc : ((L a)[i]'hl).toNat < 32
    · refine ev_ite_pos (by omega) (ev_const ?_)
      congr 1
      symm
      rw [Bool.eq_false_iff, Ne, mayB_iff]
      intro h
      have := h.2 _ (List.getElem_mem hl)
      omega
    · have e2 : Aside0 (wrap64 ((i : Int) + 1) = ((i + 1 : Nat) : Int)) := ⟨by rw [w64_ (by omega) (by omega)]; rfl⟩
      rw [e2.out]
      refine ev_ite_neg (by omega) (ih (i + 1) (by omega) (fun j h h' => ?_))
      rcases Nat.lt_succ_iff_lt_or_eq.1 h with h1 | rfl
      · exact hj j h1 h'
      · omega
theorem may_ev (a : ByteArray) (ha : a.size ≤ 9000000000) : Ev (fun k => depfile_may.f k a) (mayB a) := by
  unfold depfile_may.f
  exact may_l0 a ha a.size 0 (by omega) (fun j h => absurd h (Nat.not_lt_zero _))
theorem rmay_l0 (a : ByteArray) (ha : a.size ≤ 9000000000) : ∀ d i : Nat, i + d = a.size → (∀ j (_ : j < i) (h' : j < (L a).length), 32 ≤ ((L a)[j]'h').toNat) → Ev (fun k => brickyardref16_May.l0 k a (i : Int)) (mayB a) := by
  intro d
  have hsz : a.size = (L a).length := size_L a
  induction d with
  | zero =>
    intro i hi hj
    refine ev_succ ?_
    simp only [brickyardref16_May.l0]
    refine ev_ite_neg (by omega) (ev_const ?_)
    congr 1
    rw [Bool.eq_iff_iff, mayB_iff]
    constructor
    · intro h
      refine ⟨fun e => ?_, fun c hc => ?_⟩
      · rw [e] at hsz
        rw [decide_eq_true_iff] at h
        simp only [List.length_nil] at hsz
        omega
      · obtain ⟨j, h', rfl⟩ := List.getElem_of_mem hc
        exact hj j (by omega) h'
    · intro h
      have := List.length_pos_iff.2 h.1
      rw [decide_eq_true_iff]
      omega
  | succ d ih =>
    intro i hi hj
    have hl : i < (L a).length := by omega
    refine ev_succ ?_
    simp only [brickyardref16_May.l0]
    refine ev_ite_pos (by omega) (ev_ite_pos (by omega) ?_)
    rw [bt_L a i hl]
    by_cases hc : ((L a)[i]'hl).toNat < 32
    · refine ev_ite_pos (by omega) (ev_const ?_)
      congr 1
      symm
      rw [Bool.eq_false_iff, Ne, mayB_iff]
      intro h
      have := h.2 _ (List.getElem_mem hl)
      omega
    · have e2 : Aside0 (wrap64 ((i : Int) + 1) = ((i + 1 : Nat) : Int)) := ⟨by rw [w64_ (by omega) (by omega)]; rfl⟩
      rw [e2.out]
      refine ev_ite_neg (by omega) (ih (i + 1) (by omega) (fun j h h' => ?_))
      rcases Nat.lt_succ_iff_lt_or_eq.1 h with h1 | rfl
      · exact hj j h1 h'
      · omega
theorem rmay_ev (a : ByteArray) (ha : a.size ≤ 9000000000) : Ev (fun k => brickyardref16_May.f k a) (mayB a) := by
  unfold brickyardref16_May.f
  exact rmay_l0 a ha a.size 0 (by omega) (fun j h => absurd h (Nat.not_lt_zero _))
/-- bytes as numbers -/
def nums (l : List UInt8) : List Int := l.map fun c => (c.toNat : Int)
theorem nums_app (a b : List UInt8) : nums (a ++ b) = nums a ++ nums b := List.map_append ..
theorem nums_len (a : List UInt8) : (nums a).length = a.length := List.length_map ..
theorem bytesOf_nums (s : ByteArray) : bytesOf s = nums (L s) := rfl
theorem str_nums (l : List UInt8) : strOfNums (nums l) = B l := by
  unfold strOfNums nums B
  rw [List.map_map, show ((fun n : Int => UInt8.ofNat n.toNat) ∘ fun c : UInt8 => (c.toNat : Int)) = id by funext c; simp, List.map_id]
theorem rwritten_l0 (a : ByteArray) (ha : a.size ≤ 9000000000) : ∀ d i : Nat, i + d = a.size → Ev (fun k => brickyardref16_Written.l0 k a (nums (escL ((L a).take i))) (i : Int)) (escT a) := by
  intro d
  have hsz : a.size = (L a).length := size_L a
  induction d with
  | zero =>
    intro i hi
    refine ev_succ ?_
    simp only [brickyardref16_Written.l0]
    refine ev_ite_neg (by omega) (ev_const ?_)
    rw [str_nums, List.take_of_length_le (by omega)]
    rfl
  | succ d ih =>
    intro i hi
    have hl : i < (L a).length := by omega
    have hlen := escL_len ((L a).take i)
    rw [List.length_take] at hlen
    have h1 := ih (i + 1) (by omega)
    rw [List.take_succ_eq_append_getElem hl, escL_append, nums_app] at h1
    refine ev_succ ?_
    simp only [brickyardref16_Written.l0, Option.bind_some]
    refine ev_ite_pos (by omega) (ev_ite_pos (by omega) ?_)
    have e2 : Aside0 (wrap64 ((i : Int) + 1) = ((i + 1 : Nat) : Int)) := ⟨by rw [w64_ (by omega) (by omega)]; rfl⟩
    rw [bt_L a i hl, e2.out]
    have hn : (nums (escL ((L a).take i))).length = (escL ((L a).take i)).length := nums_len _
    generalize (L a)[i]'hl = c at h1 ⊢
    have h92 : ((c.toNat : Int) = 92) ↔ c = 92 := ⟨fun e => UInt8.toNat.inj (by simp; omega), fun e => by rw [e]; rfl⟩
    have h32 : ((c.toNat : Int) = 32) ↔ c = 32 := ⟨fun e => UInt8.toNat.inj (by simp; omega), fun e => by rw [e]; rfl⟩
    have h58 : ((c.toNat : Int) = 58) ↔ c = 58 := ⟨fun e => UInt8.toNat.inj (by simp; omega), fun e => by rw [e]; rfl⟩
    have two : c = 92 ∨ c = 32 ∨ c = 58 → Ev (fun k => if (nums (escL ((L a).take i))).length < 140737488355328 then (if (nums (escL ((L a).take i)) ++ [92]).length < 140737488355328 then brickyardref16_Written.l0 k a (nums (escL ((L a).take i)) ++ [92] ++ [(c.toNat : Int)]) ((i + 1 : Nat) : Int) else none) else none) (escT a) := by
      intro hc
      refine ev_ite_pos (by omega) (ev_ite_pos (by rw [List.length_append, List.length_singleton]; omega) ?_)
      have : nums (escL [c]) = [92, (c.toNat : Int)] := by simp [escL, escC, hc, nums]
      rw [this] at h1
      rw [List.append_assoc]
      exact h1
    by_cases c32 : c = 32
    · exact ev_ite_pos (h32.2 c32) (two (.inr (.inl c32)))
    refine ev_ite_neg (fun e => c32 (h32.1 e)) ?_
    by_cases c58 : c = 58
    · exact ev_ite_pos (h58.2 c58) (two (.inr (.inr c58)))
    refine ev_ite_neg (fun e => c58 (h58.1 e)) ?_
    by_cases c92 : c = 92
    · exact ev_ite_pos (h92.2 c92) (two (.inl c92))
    refine ev_ite_neg (fun e => c92 (h92.1 e)) (ev_ite_pos (by omega) ?_)
    have : nums (escL [c]) = [(c.toNat : Int)] := by simp [escL, escC, c92, c32, c58, nums]
    rw [this] at h1
    exact h1
theorem rwritten_ev (a : ByteArray) (ha : a.size ≤ 9000000000) : Ev (fun k => brickyardref16_Written.f k a) (escT a) := by
  unfold brickyardref16_Written.f
  exact rwritten_l0 a ha a.size 0 (by omega)
end Go.Proofs.Ytahdgaaedilcmaa.Pl
/- Depfiles, plainly: the document's Fold tells what the program's told tells. -/
namespace Go.Proofs.Ytahdgaaedilcmaa.Pl
open Go.RowKit Go.Proofs.Ytahdgaaedilcmaa.P Go.Proofs.YtahdgaaedilcmaaW.PrintWords Go.Proofs.YtahdgaaedilcmaaW.PrintLast Go.Proofs.YtahdgaaedilcmaaW.PrintMore

/-- Few rules, short words. -/
def Tiny (l : List S32) : Prop := l.length ≤ 33000 ∧ ∀ r ∈ l, r.f0.size ≤ 33000 ∧ r.f1.length ≤ 33000 ∧ ∀ d ∈ r.f1, d.size ≤ 33000
def rightB (l : List S32) : Bool := l.all fun r => mayB r.f0 && r.f1.all mayB
theorem rightB_iff (l : List S32) : rightB l = true ↔ ∀ r ∈ l, MayR r := by
  unfold rightB MayR
  rw [List.all_eq_true]
  constructor
  · intro h r hr
    have := h r hr
    rw [Bool.and_eq_true, List.all_eq_true] at this
    exact this
  · intro h r hr
    rw [Bool.and_eq_true, List.all_eq_true]
    exact h r hr
theorem rd32 {l : List S32} {i : Nat} (h : i < l.length) : rd_T32 l (i : Int) = l[i] := by
  unfold rd_T32; rw [Int.toNat_natCast, List.getD_eq_getElem?_getD, List.getElem?_eq_getElem h]; rfl
theorem rdB {l : List ByteArray} {i : Nat} (h : i < l.length) : rdOf ByteArray.empty l (i : Int) = l[i] := by
  unfold rdOf; rw [Int.toNat_natCast, List.getD_eq_getElem?_getD, List.getElem?_eq_getElem h]; rfl
theorem wi1 {i : Nat} (h : i ≤ 9000000000) : wrap64 ((i : Int) + 1) = ((i + 1 : Nat) : Int) := by rw [w64_ (by omega) (by omega)]; rfl
theorem right_l0 (l : List S32) (hT : Tiny l) : ∀ d i : Nat, i + d = l.length → Ev (fun k => brickyardref16_Right.l0 k l (i : Int)) (rightB (l.drop i)) := by
  intro d
  have hlen := hT.1
  induction d with
  | zero =>
    intro i hi
    refine ev_succ ?_
    simp only [brickyardref16_Right.l0]
    refine ev_ite_neg (by omega) (ev_const ?_)
    rw [List.drop_of_length_le (by omega)]
    rfl
  | succ d ih =>
    intro i hi
    have hl : i < l.length := by omega
    obtain ⟨h0, h1, h2⟩ := hT.2 _ (List.getElem_mem hl)
    have hrd := rd32 hl
    have hi1 := Aside0.mk (wi1 (i := i) (by omega))
    have nx := ih (i + 1) (by omega)
    have inner : ∀ e j : Nat, j + e = l[i].f1.length → Ev (fun k => brickyardref16_Right.l1 k l (i : Int) (j : Int)) ((l[i].f1.drop j).all mayB && rightB (l.drop (i + 1))) := by
      intro e
      induction e with
      | zero =>
        intro j hj
        refine ev_succ ?_
        simp only [brickyardref16_Right.l1, hrd]
        refine ev_ite_pos (by omega) (ev_ite_pos (by omega) (ev_ite_neg (by omega) ?_))
        rw [hi1.out, List.drop_of_length_le (by omega : l[i].f1.length ≤ j)]
        simpa using nx
      | succ e ih2 =>
        intro j hj
        have hlj : j < l[i].f1.length := by omega
        have hj1 := Aside0.mk (wi1 (i := j) (by omega))
        refine ev_succ ?_
        simp only [brickyardref16_Right.l1, hrd]
        refine ev_ite_pos (by omega) (ev_ite_pos (by omega) (ev_ite_pos (by omega) (ev_ite_pos (by omega) (ev_bind (rmay_ev _ (by rw [rdB hlj]; have := h2 _ (List.getElem_mem hlj); omega)) ?_))))
        rw [rdB hlj, List.drop_eq_getElem_cons hlj, List.all_cons, hj1.out]
        by_cases hm : mayB l[i].f1[j] = true
        · refine ev_ite_pos hm (ev_eq (ih2 (j + 1) (by omega)) ?_)
          rw [hm, Bool.true_and]
        · refine ev_ite_neg hm (ev_const ?_)
          simp [hm]
    refine ev_succ ?_
    simp only [brickyardref16_Right.l0, hrd]
    refine ev_ite_pos (by omega) (ev_ite_pos (by omega) (ev_bind (rmay_ev _ (by omega)) ?_))
    rw [List.drop_eq_getElem_cons hl]
    have h3 : rightB (l[i] :: l.drop (i + 1)) = (mayB l[i].f0 && (l[i].f1.all mayB && rightB (l.drop (i + 1)))) := by
      unfold rightB
      rw [List.all_cons, Bool.and_assoc]
    rw [h3]
    by_cases hm : mayB l[i].f0 = true
    · refine ev_ite_pos hm (ev_eq (inner _ 0 (Nat.zero_add _)) ?_)
      rw [hm, Bool.true_and, List.drop_zero]
    · refine ev_ite_neg hm (ev_const ?_)
      simp [hm]
theorem right_ev (l : List S32) (hT : Tiny l) : Ev (fun k => brickyardref16_Right.f k l) (rightB l) := by
  unfold brickyardref16_Right.f
  exact right_l0 l hT l.length 0 (Nat.zero_add _)
/-- what is told at the end -/
def fin (o : Option ByteArray) : ByteArray × Int := match o with | some b => (b, 0) | none => (B [], 2)
/-- behind a rule's words -/
def after (short : Bool) (width : Int) (t : List S32) (o : Option (ByteArray × ByteArray)) : Option ByteArray := match o with | none => none | some (b', line) => rulesT short width t (b' ++ (line ++ B [10]))
theorem rulesT_cons (short : Bool) (width : Int) (r : S32) (t : List S32) (b : ByteArray) : rulesT short width (r :: t) b = if mayB r.f0 = true then after short width t (depsT short width r.f1 b (escT r.f0 ++ B [58])) else none := by
  rw [rulesT]
  rfl
theorem nums_L (b : ByteArray) : strOfNums (nums (L b)) = b := by rw [str_nums, B_L]
theorem fold_l0 (plain : Bool) (width : Int) (l : List S32) (hT : Tiny l) (hM : ∀ r ∈ l, MayR r) : ∀ d i : Nat, i + d = l.length → ∀ b : ByteArray, b.size ≤ i * 2200000000 →
    Ev (fun k => brickyardref16_Fold.l0 k plain width l (nums (L b)) (i : Int)) (fin (rulesT (!plain) width (l.drop i) b)) := by
  intro d
  have hlen := hT.1
  induction d with
  | zero =>
    intro i hi b hb
    refine ev_succ ?_
    simp only [brickyardref16_Fold.l0]
    refine ev_ite_neg (by omega) (ev_const ?_)
    rw [List.drop_of_length_le (by omega), nums_L]
    rfl
  | succ d ih =>
    intro i hi b hb
    have hl : i < l.length := by omega
    obtain ⟨h0, h1, h2⟩ := hT.2 _ (List.getElem_mem hl)
    obtain ⟨m0, m1⟩ := hM _ (List.getElem_mem hl)
    have hrd := rd32 hl
    have hi1 := Aside0.mk (wi1 (i := i) (by omega))
    have inner : ∀ e j : Nat, j + e = l[i].f1.length → ∀ b line : ByteArray, b.size + line.size ≤ i * 2200000000 + 66001 + j * 66005 →
        Ev (fun k => brickyardref16_Fold.l1 k plain width l (nums (L b ++ L line)) (i : Int) ((L b).length : Int) (j : Int)) (fin (after (!plain) width (l.drop (i + 1)) (depsT (!plain) width (l[i].f1.drop j) b line))) := by
      intro e
      induction e with
      | zero =>
        intro j hj b line hb
        have hs1 := size_L b
        have hs2 := size_L line
        refine ev_succ ?_
        simp only [brickyardref16_Fold.l1, hrd, Option.bind_some]
        refine ev_ite_pos (by omega) (ev_ite_pos (by omega) (ev_ite_neg (by omega) (ev_ite_pos (by rw [nums_len, List.length_append]; omega) ?_)))
        rw [hi1.out, List.drop_of_length_le (by omega : l[i].f1.length ≤ j)]
        have nx := ih (i + 1) (by omega) (b ++ (line ++ B [10])) (by rw [ByteArray.size_append, ByteArray.size_append, size_B]; simp; omega)
        rw [L_append, L_append, L_B, ← List.append_assoc, nums_app] at nx
        exact nx
      | succ e ih2 =>
        intro j hj b line hb
        have hs1 := size_L b
        have hs2 := size_L line
        have hlj : j < l[i].f1.length := by omega
        have hd := h2 _ (List.getElem_mem hlj)
        have hmd := m1 _ (List.getElem_mem hlj)
        have hw := escT_len l[i].f1[j]
        have hw2 := size_L (escT l[i].f1[j])
        have hj1 := Aside0.mk (wi1 (i := j) (by omega))
        have hnl : (nums (L b ++ L line)).length = b.size + line.size := by rw [nums_len, List.length_append]; omega
        have hbt : (bytesOf (⟨#[32, 92, 10]⟩ : ByteArray)) = nums [32, 92, 10] := rfl
        refine ev_succ ?_
        simp only [brickyardref16_Fold.l1, hrd, Option.bind_some]
        refine ev_ite_pos (by omega) (ev_ite_pos (by omega) (ev_ite_pos (by omega) (ev_ite_pos (by omega) (ev_bind (rwritten_ev _ (by rw [rdB hlj]; omega)) ?_))))
        rw [rdB hlj, List.drop_eq_getElem_cons hlj, depsT, if_pos hmd, hj1.out]
        have flat : Ev (fun k => if (nums (L b ++ L line)).length < 140737488355328 then (if (nums (L b ++ L line) ++ [32]).length + (escT l[i].f1[j]).size < 140737488355328 then brickyardref16_Fold.l1 k plain width l (nums (L b ++ L line) ++ [32] ++ bytesOf (escT l[i].f1[j])) (i : Int) ((L b).length : Int) ((j + 1 : Nat) : Int) else none) else none)
            (fin (after (!plain) width (l.drop (i + 1)) (depsT (!plain) width (l[i].f1.drop (j + 1)) b (line ++ (B [32] ++ escT l[i].f1[j]))))) := by
          refine ev_ite_pos (by rw [hnl]; omega) (ev_ite_pos (by rw [List.length_append, hnl, List.length_singleton]; omega) ?_)
          have nx := ih2 (j + 1) (by omega) b (line ++ (B [32] ++ escT l[i].f1[j])) (by rw [ByteArray.size_append, ByteArray.size_append, size_B]; simp only [List.length_cons, List.length_nil]; omega)
          rw [L_append, L_append, L_B, ← List.append_assoc, ← List.append_assoc, nums_app, nums_app (L b ++ L line)] at nx
          exact nx
        cases plain with
        | true =>
          refine ev_ite_pos rfl ?_
          exact ev_eq flat (by rw [if_neg (show ¬ ((!true) = true ∧ width < (line.size : Int) + 1 + ((escT l[i].f1[j]).size : Int)) from fun h => by cases h.1)])
        | false =>
          refine ev_ite_neg (by decide) ?_
          have hsum : Aside0 (wrap64 ((wrap64 ((wrap64 (((nums (L b ++ L line)).length : Int) - ((L b).length : Int))) + 1)) + ((escT l[i].f1[j]).size : Int)) = (line.size : Int) + 1 + ((escT l[i].f1[j]).size : Int)) := by
            constructor
            rw [hnl, w64_ (x := (((b.size + line.size : Nat) : Int) - ((L b).length : Int))) (by omega) (by omega), show (((b.size + line.size : Nat) : Int) - ((L b).length : Int)) = (line.size : Int) by omega, w64_ (x := (line.size : Int) + 1) (by omega) (by omega), w64_ (by omega) (by omega)]
          rw [hsum.out]
          by_cases hc : width < (line.size : Int) + 1 + ((escT l[i].f1[j]).size : Int)
          · refine ev_ite_pos hc ?_
            have nx := ih2 (j + 1) (by omega) (b ++ (line ++ B [32, 92, 10])) (B [32, 32] ++ escT l[i].f1[j]) (by rw [ByteArray.size_append, ByteArray.size_append, ByteArray.size_append, size_B, size_B]; simp only [List.length_cons, List.length_nil]; omega)
            rw [if_pos (show ((!false) = true ∧ width < (line.size : Int) + 1 + ((escT l[i].f1[j]).size : Int)) from ⟨rfl, hc⟩)]
            have e1 : L (b ++ (line ++ B [32, 92, 10])) = L b ++ L line ++ [32, 92, 10] := by simp [L_append, L_B]
            have e2 : nums (L b ++ L line ++ [32, 92, 10] ++ L (B [32, 32] ++ escT l[i].f1[j])) = nums (L b ++ L line) ++ nums [32, 92, 10] ++ [32] ++ [32] ++ bytesOf (escT l[i].f1[j]) := by
              rw [L_append, L_B, bytesOf_nums, nums_app, nums_app, nums_app [32, 32]]
              simp [nums]
            rw [e1, e2] at nx
            have e3 : ((L b ++ L line ++ [32, 92, 10]).length : Int) = ((nums (L b ++ L line) ++ nums [32, 92, 10]).length : Int) := by rw [← nums_app, nums_len]
            rw [e3] at nx
            rw [hbt]
            have k1 : (nums (L b ++ L line) ++ nums [32, 92, 10]).length = b.size + line.size + 3 := by rw [List.length_append, hnl]; rfl
            refine ev_ite_pos (by rw [hnl]; omega) (ev_ite_pos (by rw [k1]; omega) (ev_ite_pos (by rw [List.length_append, k1, List.length_singleton]; omega) (ev_ite_pos (by rw [List.length_append, List.length_append, k1, List.length_singleton]; omega) ?_)))
            exact nx
          · refine ev_ite_neg hc ?_
            rw [if_neg (show ¬ ((!false) = true ∧ width < (line.size : Int) + 1 + ((escT l[i].f1[j]).size : Int)) from fun h => hc h.2)]
            exact flat
    have hw := escT_len l[i].f0
    have hs1 := size_L b
    have hs3 := size_L (escT l[i].f0)
    refine ev_succ ?_
    simp only [brickyardref16_Fold.l0, hrd, Option.bind_some]
    refine ev_ite_pos (by omega) (ev_ite_pos (by omega) (ev_bind (rwritten_ev _ (by omega)) ?_))
    rw [List.drop_eq_getElem_cons hl, rulesT_cons, if_pos m0]
    have hn : (nums (L b)).length = b.size := by rw [nums_len, size_L]
    refine ev_ite_pos (by rw [hn]; omega) (ev_ite_pos (by rw [List.length_append, hn, bytesOf_nums, nums_len]; omega) ?_)
    have nx := inner l[i].f1.length 0 (Nat.zero_add _) b (escT l[i].f0 ++ B [58]) (by rw [ByteArray.size_append, size_B]; simp only [List.length_cons, List.length_nil]; omega)
    rw [List.drop_zero, L_append, L_B, ← List.append_assoc, nums_app, nums_app] at nx
    rw [nums_len]
    exact nx
theorem fin_told (short : Bool) (width : Int) (l : List S32) : fin (rulesT short width l (B [])) = toldT short width l := rfl
theorem fold_ev (plain : Bool) (width : Int) (l : List S32) (hT : Tiny l) : Ev (fun k => brickyardref16_Fold.f k plain width l) (toldT (!plain) width l) := by
  unfold brickyardref16_Fold.f
  refine ev_bind (right_ev l hT) ?_
  by_cases hr : rightB l = true
  · refine ev_ite_pos hr ?_
    have := fold_l0 plain width l hT ((rightB_iff l).1 hr) l.length 0 (Nat.zero_add _) (B []) (by rw [size_B]; simp)
    rw [L_B, List.drop_zero] at this
    exact this
  · refine ev_ite_neg hr (ev_const ?_)
    have h2 := rules_may (!plain) width l (B [])
    rw [rightB_iff] at hr
    have h3 : rulesT (!plain) width l (B []) = none := by
      cases h : rulesT (!plain) width l (B []) with
      | none => rfl
      | some b => exact absurd (h2.1 (by rw [h]; simp)) hr
    rw [← fin_told, h3]
    rfl
end Go.Proofs.Ytahdgaaedilcmaa.Pl
