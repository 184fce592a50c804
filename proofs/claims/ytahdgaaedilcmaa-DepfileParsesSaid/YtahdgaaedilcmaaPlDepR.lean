/- Depfiles, plainly: the document's reader, over pieces, tells what the program's reader tells. -/
import Derived.Test.YtahdgaaedilcmaaPlDep
import Derived.Test.YtahdgaaedilcmaaGRParse
namespace Go.Proofs.Ytahdgaaedilcmaa.Pl
open Go.RowKit Go.Proofs.Ytahdgaaedilcmaa.P Go.Proofs.YtahdgaaedilcmaaW.PrintWords Go.Proofs.YtahdgaaedilcmaaW.PrintLast Go.Proofs.YtahdgaaedilcmaaW.PrintMore

/-- a text's pieces; where a byte may not be -/
def pcs : List UInt8 → Int → List S61 × Int
  | [], i => ([⟨3, 0, i⟩], -1)
  | c :: t, i =>
    if c = 10 then (⟨3, 0, i⟩ :: (pcs t (i + 1)).1, (pcs t (i + 1)).2)
    else if c.toNat < 32 then ([], i)
    else if c = 32 then (⟨1, 0, i⟩ :: (pcs t (i + 1)).1, (pcs t (i + 1)).2)
    else if c = 58 then (⟨2, 0, i⟩ :: (pcs t (i + 1)).1, (pcs t (i + 1)).2)
    else if c = 92 then
      match t with
      | [] => ([], i)
      | d :: t' =>
        if d = 10 then (⟨1, 0, i⟩ :: (pcs t' (i + 1 + 1)).1, (pcs t' (i + 1 + 1)).2)
        else if d = 32 ∨ d = 58 ∨ d = 92 then (⟨4, ((d.toNat : Nat) : Int), i⟩ :: (pcs t' (i + 1 + 1)).1, (pcs t' (i + 1 + 1)).2)
        else ([], i)
    else (⟨4, ((c.toNat : Nat) : Int), i⟩ :: (pcs t (i + 1)).1, (pcs t (i + 1)).2)
theorem pcs_len : ∀ (n : Nat) (l : List UInt8), l.length ≤ n → ∀ i, (pcs l i).1.length ≤ l.length + 1 := by
  intro n
  induction n with
  | zero =>
    intro l hl i
    obtain rfl := List.eq_nil_of_length_eq_zero (Nat.le_zero.1 hl)
    simp [pcs]
  | succ n ih =>
    intro l hl i
    cases l with
    | nil => simp [pcs]
    | cons c t =>
      have h1 := ih t (by simp at hl; omega) (i + 1)
      rw [pcs.eq_def]
      dsimp only
      split
      · simp; omega
      split
      · simp
      split
      · simp; omega
      split
      · simp; omega
      split
      · cases t with
        | nil => simp
        | cons d t' =>
          have h2 := ih t' (by simp at hl; omega) (i + 1 + 1)
          dsimp only
          split
          · simp; omega
          split
          · simp; omega
          · simp
      · simp; omega
/-- the pieces, read -/
def rgo (bad : Int) : List S61 → List S32 → List ByteArray → Bool → Option (List Int) → List S32 × Int × Int
  | [], out, _, _, _ => if 0 ≤ bad then ([], 6, bad) else (out, 0, 0)
  | p :: r, out, words, mark, cur =>
    if p.f0 = 2 then
      if (words ++ cur.toList.map strOfNums).length = 0 ∨ mark = true then ([], 6, p.f2) else rgo bad r out (words ++ cur.toList.map strOfNums) true none
    else if p.f0 = 3 then
      if (words ++ cur.toList.map strOfNums).length = 0 then rgo bad r out [] false none
      else if mark = false then ([], 6, p.f2)
      else rgo bad r (out ++ [⟨rdOf ByteArray.empty (words ++ cur.toList.map strOfNums) 0, (words ++ cur.toList.map strOfNums).drop 1⟩]) [] false none
    else if p.f0 = 4 then
      match cur with
      | some s => rgo bad r out words mark (some (s ++ [p.f1]))
      | none => if words.length = 1 ∧ mark = false then ([], 6, p.f2) else rgo bad r out words mark (some [p.f1])
    else rgo bad r out (words ++ cur.toList.map strOfNums) mark none
/-- where the program's reader stands, and where the document's one does -/
inductive Rel : S32 → ByteArray → Bool → Bool → Bool → List ByteArray → Bool → Option (List Int) → Prop
  | a0 : Rel z32 ⟨#[]⟩ false false false [] false none
  | a1 (s : List Int) : Rel z32 (strOfNums s) true false false [] false (some s)
  | b (x : ByteArray) : Rel ⟨x, []⟩ ⟨#[]⟩ false true false [x] false none
  | c0 (rule : S32) : Rel rule ⟨#[]⟩ false true true (rule.f0 :: rule.f1) true none
  | c1 (rule : S32) (s : List Int) : Rel rule (strOfNums s) true true true (rule.f0 :: rule.f1) true (some s)
/-- behind a word's end -/
theorem Rel.closed {rule : S32} {word : ByteArray} {inn tgt col : Bool} {words : List ByteArray} {mark : Bool} {cur : Option (List Int)} (h : Rel rule word inn tgt col words mark cur) :
    Rel (closeRule rule word inn col) ⟨#[]⟩ false (closeTgt inn tgt col) col (words ++ cur.toList.map strOfNums) mark none := by
  cases h with
  | a0 => exact .a0
  | a1 s => exact .b (strOfNums s)
  | b x => exact .b x
  | c0 =>
    have h2 := Rel.c0 rule
    simpa [closeRule, closeTgt] using h2
  | c1 _ s =>
    have h2 := Rel.c0 ⟨rule.f0, rule.f1 ++ [strOfNums s]⟩
    exact h2
theorem strOfNums_snoc (s : List Int) (c : UInt8) : strOfNums (s ++ [((c.toNat : Nat) : Int)]) = strOfNums s ++ B [c] := by
  apply L_inj
  rw [L_append, L_B]
  show (strOfNums (s ++ [((c.toNat : Nat) : Int)])).data.toList = (strOfNums s).data.toList ++ [c]
  rw [strOfNums_data, strOfNums_data, List.map_append]
  simp
theorem strOfNums_one (c : UInt8) : strOfNums [((c.toNat : Nat) : Int)] = (⟨#[]⟩ : ByteArray) ++ B [c] := strOfNums_snoc [] c
/-- behind a word's byte -/
theorem Rel.byte {rule : S32} {word : ByteArray} {inn tgt col : Bool} {words : List ByteArray} {mark : Bool} {cur : Option (List Int)} (h : Rel rule word inn tgt col words mark cur) (c : UInt8) (hn : ¬ (inn = false ∧ tgt = true ∧ col = false)) :
    Rel rule (word ++ B [c]) true tgt col words mark (some (cur.getD [] ++ [((c.toNat : Nat) : Int)])) ∧ (cur = none → ¬ (words.length = 1 ∧ mark = false)) := by
  cases h with
  | a0 => rw [← strOfNums_one]; exact ⟨.a1 [((c.toNat : Nat) : Int)], fun _ e => by cases e.1⟩
  | a1 s => rw [← strOfNums_snoc]; exact ⟨.a1 (s ++ [((c.toNat : Nat) : Int)]), fun e => by cases e⟩
  | b x => exact absurd ⟨rfl, rfl, rfl⟩ hn
  | c0 => rw [← strOfNums_one]; exact ⟨.c1 rule [((c.toNat : Nat) : Int)], fun _ e => by cases e.2⟩
  | c1 _ s => rw [← strOfNums_snoc]; exact ⟨.c1 rule (s ++ [((c.toNat : Nat) : Int)]), fun e => by cases e⟩
theorem Rel.wrong {rule : S32} {word : ByteArray} {inn tgt col : Bool} {words : List ByteArray} {mark : Bool} {cur : Option (List Int)} (h : Rel rule word inn tgt col words mark cur) (hn : inn = false ∧ tgt = true ∧ col = false) : cur = none ∧ words.length = 1 ∧ mark = false := by
  cases h with
  | a0 => cases hn.2.1
  | a1 s => cases hn.1
  | b x => exact ⟨rfl, rfl, rfl⟩
  | c0 => cases hn.2.2
  | c1 _ s => cases hn.1
theorem rgo_four (bad : Int) (c : UInt8) (at_ : Int) (r : List S61) (out : List S32) {rule : S32} {word : ByteArray} {inn tgt col : Bool} {words : List ByteArray} {mark : Bool} {cur : Option (List Int)} (h : Rel rule word inn tgt col words mark cur) :
    rgo bad (⟨4, ((c.toNat : Nat) : Int), at_⟩ :: r) out words mark cur = if inn = false ∧ tgt = true ∧ col = false then ([], 6, at_) else rgo bad r out words mark (some (cur.getD [] ++ [((c.toNat : Nat) : Int)])) := by
  rw [rgo.eq_def]
  dsimp only
  rw [if_neg (by decide), if_neg (by decide), if_pos rfl]
  by_cases hn : inn = false ∧ tgt = true ∧ col = false
  · rw [if_pos hn]
    obtain ⟨rfl, h2⟩ := h.wrong hn
    exact if_pos h2
  · rw [if_neg hn]
    have h2 := (h.byte c hn).2
    cases cur with
    | none => exact if_neg (h2 rfl)
    | some s => rfl
theorem rgo_end (bad : Int) (at_ : Int) (r : List S61) (out : List S32) {rule : S32} {word : ByteArray} {inn tgt col : Bool} {words : List ByteArray} {mark : Bool} {cur : Option (List Int)} (h : Rel rule word inn tgt col words mark cur) :
    rgo bad (⟨3, 0, at_⟩ :: r) out words mark cur = if closeTgt inn tgt col = true then (if col = false then ([], 6, at_) else rgo bad r (out ++ [closeRule rule word inn col]) [] false none) else rgo bad r out [] false none := by
  rw [rgo.eq_def]
  dsimp only
  rw [if_neg (by decide), if_pos rfl]
  cases h with
  | a0 => rfl
  | a1 s => rfl
  | b x => rfl
  | c0 =>
    rw [show rule.f0 :: rule.f1 ++ List.map strOfNums (none : Option (List Int)).toList = rule.f0 :: rule.f1 by simp]
    rfl
  | c1 _ s => rfl
theorem rgo_mark (bad : Int) (at_ : Int) (r : List S61) (out : List S32) {rule : S32} {word : ByteArray} {inn tgt col : Bool} {words : List ByteArray} {mark : Bool} {cur : Option (List Int)} (h : Rel rule word inn tgt col words mark cur) :
    rgo bad (⟨2, 0, at_⟩ :: r) out words mark cur = if closeTgt inn tgt col = false ∨ col = true then ([], 6, at_) else rgo bad r out (words ++ cur.toList.map strOfNums) true none := by
  rw [rgo.eq_def]
  dsimp only
  rw [if_pos rfl]
  cases h with
  | a0 => rfl
  | a1 s => rfl
  | b x => rfl
  | c0 => rfl
  | c1 _ s => rfl
theorem Rel.marked {rule : S32} {word : ByteArray} {inn tgt col : Bool} {words : List ByteArray} {mark : Bool} {cur : Option (List Int)} (h : Rel rule word inn tgt col words mark cur) (hn : ¬ (closeTgt inn tgt col = false ∨ col = true)) :
    Rel (closeRule rule word inn col) ⟨#[]⟩ false (closeTgt inn tgt col) true (words ++ cur.toList.map strOfNums) true none := by
  cases h with
  | a0 => exact absurd (.inl rfl) hn
  | a1 s => exact .c0 ⟨strOfNums s, []⟩
  | b x => exact .c0 ⟨x, []⟩
  | c0 => exact absurd (.inr rfl) hn
  | c1 _ s => exact absurd (.inr rfl) hn
theorem rgo_go : ∀ (n : Nat) (l : List UInt8), l.length ≤ n → ∀ (i : Int), 0 ≤ i → ∀ (out : List S32) (rule : S32) (word : ByteArray) (inn tgt col : Bool) (words : List ByteArray) (mark : Bool) (cur : Option (List Int)), Rel rule word inn tgt col words mark cur →
    rgo (pcs l i).2 (pcs l i).1 out words mark cur = go l i out rule word inn tgt col := by
  intro n
  have hend : ∀ (i : Int) (out : List S32) (rule : S32) (word : ByteArray) (inn tgt col : Bool) (words : List ByteArray) (mark : Bool) (cur : Option (List Int)), Rel rule word inn tgt col words mark cur →
      rgo (pcs [] i).2 (pcs [] i).1 out words mark cur = go [] i out rule word inn tgt col := by
    intro i out rule word inn tgt col words mark cur h
    show rgo (-1) [⟨3, 0, i⟩] out words mark cur = _
    rw [rgo_end _ _ _ _ h, go]
    rfl
  induction n with
  | zero =>
    intro l hl i hi out rule word inn tgt col words mark cur h
    obtain rfl := List.eq_nil_of_length_eq_zero (Nat.le_zero.1 hl)
    exact hend i out rule word inn tgt col words mark cur h
  | succ n ih =>
    intro l hl i hi out rule word inn tgt col words mark cur h
    cases l with
    | nil => exact hend i out rule word inn tgt col words mark cur h
    | cons c t =>
      have ht : t.length ≤ n := by simp at hl; omega
      have hbad : ∀ words mark cur, rgo i [] out words mark cur = ([], 6, i) := fun _ _ _ => by rw [rgo.eq_def]; exact if_pos hi
      rw [pcs.eq_def, go.eq_def]
      dsimp only
      by_cases c10 : c = 10
      · rw [if_pos c10, if_pos c10]
        dsimp only
        rw [rgo_end _ _ _ _ h, ih t ht (i + 1) (by omega) _ _ _ _ _ _ _ _ _ .a0, ih t ht (i + 1) (by omega) _ _ _ _ _ _ _ _ _ .a0]
      rw [if_neg c10, if_neg c10]
      by_cases cl : c.toNat < 32
      · rw [if_pos cl, if_pos cl]; exact hbad ..
      rw [if_neg cl, if_neg cl]
      by_cases c32 : c = 32
      · rw [if_pos c32, if_pos c32]
        dsimp only
        rw [rgo.eq_def]
        dsimp only
        rw [if_neg (by decide), if_neg (by decide), if_neg (by decide)]
        exact ih t ht (i + 1) (by omega) _ _ _ _ _ _ _ _ _ h.closed
      rw [if_neg c32, if_neg c32]
      by_cases c58 : c = 58
      · rw [if_pos c58, if_pos c58]
        dsimp only
        rw [rgo_mark _ _ _ _ h]
        by_cases cw : closeTgt inn tgt col = false ∨ col = true
        · rw [if_pos cw, if_pos cw]
        · rw [if_neg cw, if_neg cw]
          exact ih t ht (i + 1) (by omega) _ _ _ _ _ _ _ _ _ (h.marked cw)
      rw [if_neg c58, if_neg c58]
      have four : ∀ (d : UInt8) (t' : List UInt8) (j : Int), t'.length ≤ n → 0 ≤ j → rgo (pcs t' j).2 (⟨4, ((d.toNat : Nat) : Int), i⟩ :: (pcs t' j).1) out words mark cur = if inn = false ∧ tgt = true ∧ col = false then ([], 6, i) else go t' j out rule (word ++ B [d]) true tgt col := by
        intro d t' j ht' hj
        rw [rgo_four _ _ _ _ _ h]
        by_cases cw : inn = false ∧ tgt = true ∧ col = false
        · rw [if_pos cw, if_pos cw]
        · rw [if_neg cw, if_neg cw]
          exact ih t' ht' j hj _ _ _ _ _ _ _ _ _ (h.byte d cw).1
      by_cases c92 : c = 92
      · rw [if_pos c92, if_pos c92]
        cases t with
        | nil => exact hbad ..
        | cons d t' =>
          have ht' : t'.length ≤ n := by simp at ht; omega
          dsimp only
          by_cases d10 : d = 10
          · rw [if_pos d10, if_neg (by rw [d10]; decide), if_pos d10]
            dsimp only
            rw [rgo.eq_def]
            dsimp only
            rw [if_neg (by decide), if_neg (by decide), if_neg (by decide)]
            exact ih t' ht' (i + 1 + 1) (by omega) _ _ _ _ _ _ _ _ _ h.closed
          rw [if_neg d10]
          by_cases de : d = 32 ∨ d = 58 ∨ d = 92
          · rw [if_pos de, if_neg (by rcases de with rfl | rfl | rfl <;> decide), if_neg d10]
            exact four d t' (i + 1 + 1) ht' (by omega)
          · rw [if_neg de, if_pos (by
              unfold escB
              simp only [Bool.or_eq_false_iff, beq_eq_false_iff_ne, ne_eq]
              exact ⟨⟨⟨d10, fun e => de (.inl e)⟩, fun e => de (.inr (.inl e))⟩, fun e => de (.inr (.inr e))⟩)]
            exact hbad ..
      rw [if_neg c92, if_neg c92]
      exact four c t (i + 1) ht (by omega)
set_option maxHeartbeats 4000000 in
theorem pieces_l0 (a0 : ByteArray) (hs : a0.size ≤ 32768) : ∀ (n : Nat) (l : List UInt8) (i : Nat) (acc : List S61), l.length ≤ n → (L a0).drop i = l → i ≤ a0.size → acc.length ≤ i →
    Ev (fun k => brickyardref16_Pieces.l0 k a0 acc (i : Int)) (acc ++ (pcs l (i : Int)).1, (pcs l (i : Int)).2) := by
  intro n
  have hnil : ∀ (i : Nat) (acc : List S61), (L a0).drop i = [] → i ≤ a0.size → acc.length ≤ i → Ev (fun k => brickyardref16_Pieces.l0 k a0 acc (i : Int)) (acc ++ (pcs [] (i : Int)).1, (pcs [] (i : Int)).2) := by
    intro i acc hl hi ha
    have hi2 : i = a0.size := by
      have := congrArg List.length hl
      rw [List.length_drop, ← size_L] at this
      simp at this; omega
    refine ev_succ ?_
    simp only [brickyardref16_Pieces.l0]
    refine ev_ite_neg (by omega) (ev_ite_pos (by omega) (ev_const ?_))
    rw [← hi2]
    rfl
  induction n with
  | zero =>
    intro l i acc hn hl hi ha
    obtain rfl := List.eq_nil_of_length_eq_zero (Nat.le_zero.1 hn)
    exact hnil i acc hl hi ha
  | succ n ih =>
    intro l i acc hn hl hi ha
    cases l with
    | nil => exact hnil i acc hl hi ha
    | cons c t =>
      have hlt : i < (L a0).length := by
        have := congrArg List.length hl
        rw [List.length_drop] at this
        simp at this; omega
      have hsz : a0.size = (L a0).length := size_L a0
      rw [drop_cons hlt] at hl
      injection hl with hc ht
      have hb : bt a0 (i : Int) = ((c.toNat : Nat) : Int) := by rw [bt_L a0 i hlt, hc]
      have htl : t.length ≤ n := by simp at hn; omega
      have e : ∀ (v : Nat), v < 256 → (bt a0 (i : Int) = (v : Int) ↔ c = UInt8.ofNat v) := fun v hv => by rw [hb]; exact u8_eq c v hv
      have e10 : bt a0 (i : Int) = 10 ↔ c = 10 := e 10 (by decide)
      have e32 : bt a0 (i : Int) = 32 ↔ c = 32 := e 32 (by decide)
      have e58 : bt a0 (i : Int) = 58 ↔ c = 58 := e 58 (by decide)
      have e92 : bt a0 (i : Int) = 92 ↔ c = 92 := e 92 (by decide)
      have w1 : Aside0 (wrap64 ((i : Int) + 1) = ((i + 1 : Nat) : Int)) := ⟨by rw [w64 (by omega) (by omega)]; rfl⟩
      have next : ∀ (p : S61), Ev (fun k => brickyardref16_Pieces.l0 k a0 (acc ++ [p]) ((i + 1 : Nat) : Int)) (acc ++ (p :: (pcs t ((i : Int) + 1)).1), (pcs t ((i : Int) + 1)).2) := by
        intro p
        have := ih t (i + 1) (acc ++ [p]) htl ht (by omega) (by simp; omega)
        rw [List.append_assoc] at this
        exact this
      refine ev_succ ?_
      simp only [brickyardref16_Pieces.l0]
      rw [w1.out, pcs.eq_def]
      dsimp only
      refine ev_ite_pos (by omega) (ev_ite_pos (by omega) ?_)
      by_cases c10 : c = 10
      · rw [if_pos c10]; exact ev_ite_pos (e10.2 c10) (ev_ite_pos (by omega) (next _))
      rw [if_neg c10]
      refine ev_ite_neg (fun h => c10 (e10.1 h)) ?_
      by_cases cl : c.toNat < 32
      · rw [if_pos cl]; exact ev_ite_pos (by omega) (ev_const (by simp))
      rw [if_neg cl]
      refine ev_ite_neg (by omega) ?_
      by_cases c32 : c = 32
      · rw [if_pos c32]; exact ev_ite_pos (e32.2 c32) (ev_ite_pos (by omega) (next _))
      rw [if_neg c32]
      refine ev_ite_neg (fun h => c32 (e32.1 h)) ?_
      by_cases c58 : c = 58
      · rw [if_pos c58]; exact ev_ite_pos (e58.2 c58) (ev_ite_pos (by omega) (next _))
      rw [if_neg c58]
      refine ev_ite_neg (fun h => c58 (e58.1 h)) ?_
      by_cases c92 : c = 92
      · rw [if_pos c92]
        refine ev_ite_pos (e92.2 c92) ?_
        cases t with
        | nil =>
          have : i + 1 = a0.size := by
            have := congrArg List.length ht
            rw [List.length_drop] at this
            simp at this; omega
          refine ev_ite_neg (by omega) (ev_succ ?_)
          simp only [brickyardref16_Pieces.j1, w1.out]
          exact ev_ite_neg (by decide) (ev_ite_neg (by omega) (ev_const (by simp)))
        | cons d t' =>
          have hlt2 : i + 1 < (L a0).length := by
            have := congrArg List.length ht
            rw [List.length_drop] at this
            simp at this; omega
          rw [drop_cons hlt2] at ht
          injection ht with hd ht'
          have hb2 : bt a0 ((i + 1 : Nat) : Int) = ((d.toNat : Nat) : Int) := by rw [bt_L a0 (i + 1) hlt2, hd]
          have w2 : Aside0 (wrap64 (((i + 1 : Nat) : Int) + 1) = ((i + 1 + 1 : Nat) : Int)) := ⟨by rw [w64 (by omega) (by omega)]; rfl⟩
          have d10 : bt a0 ((i + 1 : Nat) : Int) = 10 ↔ d = 10 := by rw [hb2]; exact u8_eq d 10 (by decide)
          have d32 : bt a0 ((i + 1 : Nat) : Int) = 32 ↔ d = 32 := by rw [hb2]; exact u8_eq d 32 (by decide)
          have d58 : bt a0 ((i + 1 : Nat) : Int) = 58 ↔ d = 58 := by rw [hb2]; exact u8_eq d 58 (by decide)
          have d92 : bt a0 ((i + 1 : Nat) : Int) = 92 ↔ d = 92 := by rw [hb2]; exact u8_eq d 92 (by decide)
          have next2 : ∀ (p : S61), Ev (fun k => brickyardref16_Pieces.l0 k a0 (acc ++ [p]) ((i + 1 + 1 : Nat) : Int)) (acc ++ (p :: (pcs t' ((i : Int) + 1 + 1)).1), (pcs t' ((i : Int) + 1 + 1)).2) := by
            intro p
            have := ih t' (i + 1 + 1) (acc ++ [p]) (by simp at htl; omega) ht' (by omega) (by simp; omega)
            rw [List.append_assoc] at this
            exact this
          refine ev_ite_pos (by omega) (ev_ite_pos (by omega) (ev_succ ?_))
          simp only [brickyardref16_Pieces.j1, w1.out, w2.out]
          by_cases h10 : d = 10
          · rw [if_pos h10]; exact ev_ite_pos (beq_iff_eq.mpr (d10.2 h10)) (ev_ite_pos (by omega) (next2 _))
          rw [if_neg h10]
          refine ev_ite_neg (fun h => h10 (d10.1 (beq_iff_eq.mp h))) (ev_ite_pos (by omega) (ev_ite_pos (by omega) ?_))
          rw [hb2] at d32 d58 d92 ⊢
          by_cases h32 : d = 32
          · rw [if_pos (.inl h32)]; exact ev_ite_pos (d32.2 h32) (ev_ite_pos (by omega) (next2 _))
          refine ev_ite_neg (fun h => h32 (d32.1 h)) ?_
          by_cases h58 : d = 58
          · rw [if_pos (.inr (.inl h58))]; exact ev_ite_pos (d58.2 h58) (ev_ite_pos (by omega) (next2 _))
          refine ev_ite_neg (fun h => h58 (d58.1 h)) ?_
          by_cases h92 : d = 92
          · rw [if_pos (.inr (.inr h92))]; exact ev_ite_pos (d92.2 h92) (ev_ite_pos (by omega) (next2 _))
          refine ev_ite_neg (fun h => h92 (d92.1 h)) ?_
          rw [if_neg (fun h => by rcases h with h | h | h; exact h32 h; exact h58 h; exact h92 h)]
          exact ev_const (by simp)
      rw [if_neg c92]
      rw [hb] at e92 ⊢
      exact ev_ite_neg (fun h => c92 (e92.1 h)) (ev_ite_pos (by omega) (next _))
theorem rgo_some (bad : Int) (r : List S61) (out : List S32) (words : List ByteArray) (mark : Bool) (s : List Int) (h : ∀ p r', r = p :: r' → p.f0 ≠ 4) : rgo bad r out words mark (some s) = rgo bad r out (words ++ [strOfNums s]) mark none := by
  cases r with
  | nil => rfl
  | cons p r' =>
    have h4 := h p r' rfl
    rw [rgo.eq_def, rgo.eq_def bad (p :: r')]
    dsimp only
    rw [if_neg h4, if_neg h4]
    rw [show words ++ List.map strOfNums (some s).toList = words ++ [strOfNums s] from rfl, show words ++ [strOfNums s] ++ List.map strOfNums (none : Option (List Int)).toList = words ++ [strOfNums s] by simp]
set_option maxHeartbeats 4000000 in
theorem rl_ev (l : List S61) (bad : Int) (hl : l.length ≤ 40000) : ∀ (n : Nat),
    (∀ (i : Nat) (out : List S32) (words : List ByteArray) (mark : Bool), i ≤ l.length → l.length - i ≤ n → out.length ≤ i → words.length ≤ i → Ev (fun k => ref16_Parse.l0 k l bad out words mark (i : Int)) (rgo bad (l.drop i) out words mark none)) ∧
    (∀ (i : Nat) (out : List S32) (words : List ByteArray) (mark : Bool) (s : List Int), i < l.length → l.length - (i + 1) ≤ n → out.length ≤ i → words.length ≤ i → s.length ≤ i + 1 → Ev (fun k => ref16_Parse.l1 k l bad out words mark (i : Int) s) (rgo bad (l.drop (i + 1)) out words mark (some s))) := by
  intro n
  have rd : ∀ (i : Nat) (h : i < l.length), rd_T61 l (i : Int) = l[i] := by
    intro i h
    unfold rd_T61
    rw [Int.toNat_natCast, List.getD_eq_getElem?_getD, List.getElem?_eq_getElem h]
    rfl
  -- the words' bytes, once the rest is known
  have one : ∀ n, (∀ (i : Nat) (out : List S32) (words : List ByteArray) (mark : Bool), i ≤ l.length → l.length - i ≤ n → out.length ≤ i → words.length ≤ i → Ev (fun k => ref16_Parse.l0 k l bad out words mark (i : Int)) (rgo bad (l.drop i) out words mark none)) →
      (∀ (i : Nat) (out : List S32) (words : List ByteArray) (mark : Bool) (s : List Int), i < l.length → l.length - (i + 1) < n → out.length ≤ i → words.length ≤ i → s.length ≤ i + 1 → Ev (fun k => ref16_Parse.l1 k l bad out words mark (i : Int) s) (rgo bad (l.drop (i + 1)) out words mark (some s))) →
      (∀ (i : Nat) (out : List S32) (words : List ByteArray) (mark : Bool) (s : List Int), i < l.length → l.length - (i + 1) ≤ n → out.length ≤ i → words.length ≤ i → s.length ≤ i + 1 → Ev (fun k => ref16_Parse.l1 k l bad out words mark (i : Int) s) (rgo bad (l.drop (i + 1)) out words mark (some s))) := by
    intro n P0 P1 i out words mark s hi hn ho hw hs
    refine ev_succ ?_
    simp only [ref16_Parse.l1]
    refine ev_ite_pos ⟨by omega, by omega, by omega, by omega⟩ ?_
    by_cases h : i + 1 < l.length ∧ (rd_T61 l ((i + 1 : Nat) : Int)).f0 = 4
    · refine ev_ite_pos ⟨by omega, h.2⟩ ?_
      have h4 := h.2
      rw [rd (i + 1) h.1] at h4
      rw [show ((i : Int) + 1) = ((i + 1 : Nat) : Int) from rfl, rd (i + 1) h.1, List.drop_eq_getElem_cons h.1, rgo.eq_def]
      dsimp only
      rw [if_neg (by rw [h4]; decide), if_neg (by rw [h4]; decide), if_pos h4]
      exact P1 (i + 1) out words mark _ h.1 (by omega) (by omega) (by omega) (by simp; omega)
    · refine ev_ite_neg (fun e => h ⟨by omega, e.2⟩) ?_
      rw [rgo_some bad (l.drop (i + 1)) out words mark s (fun p r' e => ?_)]
      · exact P0 (i + 1) out (words ++ [strOfNums s]) mark (by omega) hn (by omega) (by simp; omega)
      · intro h4
        have hlt : i + 1 < l.length := by
          have := congrArg List.length e
          rw [List.length_drop] at this
          simp at this; omega
        rw [List.drop_eq_getElem_cons hlt] at e
        injection e with e1 e2
        exact h ⟨hlt, by rw [rd (i + 1) hlt, e1]; exact h4⟩
  have zero0 : ∀ (i : Nat) (out : List S32) (words : List ByteArray) (mark : Bool), i = l.length → out.length ≤ i → words.length ≤ i → Ev (fun k => ref16_Parse.l0 k l bad out words mark (i : Int)) (rgo bad (l.drop i) out words mark none) := by
    intro i out words mark hi ho hw
    refine ev_succ ?_
    simp only [ref16_Parse.l0]
    refine ev_ite_pos ⟨by omega, by omega, by omega, by omega⟩ (ev_ite_neg (by omega) ?_)
    rw [hi, List.drop_length, rgo.eq_def]
    dsimp only
    by_cases hb : 0 ≤ bad
    · rw [if_pos hb, if_pos hb]; exact ev_const rfl
    · rw [if_neg hb, if_neg hb]; exact ev_const rfl
  induction n with
  | zero =>
    have P0 : ∀ (i : Nat) (out : List S32) (words : List ByteArray) (mark : Bool), i ≤ l.length → l.length - i ≤ 0 → out.length ≤ i → words.length ≤ i → Ev (fun k => ref16_Parse.l0 k l bad out words mark (i : Int)) (rgo bad (l.drop i) out words mark none) :=
      fun i out words mark hi hn ho hw => zero0 i out words mark (by omega) ho hw
    exact ⟨P0, one 0 P0 (fun i out words mark s hi hn => absurd hn (Nat.not_lt_zero _))⟩
  | succ n ih =>
    obtain ⟨P0, P1⟩ := ih
    have Q0 : ∀ (i : Nat) (out : List S32) (words : List ByteArray) (mark : Bool), i ≤ l.length → l.length - i ≤ n + 1 → out.length ≤ i → words.length ≤ i → Ev (fun k => ref16_Parse.l0 k l bad out words mark (i : Int)) (rgo bad (l.drop i) out words mark none) := by
      intro i out words mark hi hn ho hw
      by_cases hlt : i < l.length
      case neg => exact zero0 i out words mark (by omega) ho hw
      refine ev_succ ?_
      simp only [ref16_Parse.l0]
      rw [rd i hlt, List.drop_eq_getElem_cons hlt, rgo.eq_def]
      dsimp only
      rw [show words ++ List.map strOfNums (none : Option (List Int)).toList = words by simp]
      have next : ∀ (out' : List S32) (words' : List ByteArray) (mark' : Bool), out'.length ≤ i + 1 → words'.length ≤ i + 1 → Ev (fun k => ref16_Parse.l0 k l bad out' words' mark' ((i : Int) + 1)) (rgo bad (l.drop (i + 1)) out' words' mark' none) :=
        fun out' words' mark' h1 h2 => P0 (i + 1) out' words' mark' (by omega) (by omega) h1 h2
      refine ev_ite_pos ⟨by omega, by omega, by omega, by omega⟩ (ev_ite_pos (by omega) ?_)
      by_cases e2 : l[i].f0 = 2
      · rw [if_pos e2]
        refine ev_ite_pos e2 ?_
        by_cases h : words.length = 0 ∨ mark = true
        · rw [if_pos h]; exact ev_ite_pos h (ev_const rfl)
        · rw [if_neg h]; exact ev_ite_neg h (next _ _ _ (by omega) (by omega))
      rw [if_neg e2]
      refine ev_ite_neg e2 ?_
      by_cases e3 : l[i].f0 = 3
      · rw [if_pos e3]
        refine ev_ite_pos e3 ?_
        by_cases h : words.length = 0
        · rw [if_pos h]; exact ev_ite_pos h (next _ _ _ (by omega) (by simp))
        · rw [if_neg h]
          refine ev_ite_neg h ?_
          by_cases hm : mark = false
          · rw [if_pos hm]; exact ev_ite_pos hm (ev_const rfl)
          · rw [if_neg hm]; exact ev_ite_neg hm (next _ _ _ (by simp; omega) (by simp))
      rw [if_neg e3]
      refine ev_ite_neg e3 ?_
      by_cases e4 : l[i].f0 = 4
      · rw [if_pos e4]
        refine ev_ite_pos e4 ?_
        by_cases h : words.length = 1 ∧ mark = false
        · rw [if_pos h]; exact ev_ite_pos h (ev_const rfl)
        · rw [if_neg h]
          exact ev_ite_neg h (P1 i out words mark _ hlt (by omega) ho hw (by simp))
      rw [if_neg e4]
      exact ev_ite_neg e4 (next _ _ _ (by omega) (by omega))
    exact ⟨Q0, one (n + 1) Q0 (fun i out words mark s hi hn => P1 i out words mark s hi (by omega))⟩
/-- the document's reader tells what the program's one tells -/
theorem rparse_ev (a0 : ByteArray) : Ev (fun k => ref16_Parse.f k a0) (parse (L a0)) := by
  unfold ref16_Parse.f parse
  have hsz : a0.size = (L a0).length := size_L a0
  by_cases h : 32768 < (L a0).length
  · rw [if_pos h]; exact ev_ite_pos (by omega) (ev_const rfl)
  · rw [if_neg h]
    have hp : Ev (fun k => brickyardref16_Pieces.f k a0) (pcs (L a0) 0) := by
      unfold brickyardref16_Pieces.f
      exact pieces_l0 a0 (by omega) _ (L a0) 0 [] (Nat.le_refl _) rfl (Nat.zero_le _) (Nat.le_refl _)
    refine ev_ite_neg (by omega) (ev_bind hp ?_)
    have hlen := pcs_len _ (L a0) (Nat.le_refl _) 0
    have h2 := (rl_ev (pcs (L a0) 0).1 (pcs (L a0) 0).2 (by omega) (pcs (L a0) 0).1.length).1 0 [] [] false (Nat.zero_le _) (by omega) (Nat.le_refl _) (Nat.le_refl _)
    rw [List.drop_zero, rgo_go _ (L a0) (Nat.le_refl _) 0 (Int.le_refl _) [] z32 ⟨#[]⟩ false false false [] false none .a0] at h2
    exact h2
end Go.Proofs.Ytahdgaaedilcmaa.Pl
