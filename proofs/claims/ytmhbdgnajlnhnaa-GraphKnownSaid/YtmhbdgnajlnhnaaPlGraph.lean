/- Folded: PlBase, PlSort, PlRing, PlGraph. -/
import Derived.Test.YtmhbdgnajlnhnaaWWords
import Derived.Lib.Strings
import Derived.Sort.Walk0
import Derived.Lib.SlicesCompact
/- Plain facts on bytes, texts and rounds. -/
namespace Go.Proofs.Ytmhbdgnajlnhnaa.Pl
open Go.RowKit Go.Proofs.YtmhbdgnajlnhnaaW.PrintWords

/-- a text's bytes -/
def L (s : ByteArray) : List UInt8 := s.data.toList
/-- the text of some bytes -/
def B (l : List UInt8) : ByteArray := ⟨l.toArray⟩
theorem L_B (l : List UInt8) : L (B l) = l := by simp [L, B]
theorem B_L (s : ByteArray) : B (L s) = s := Lib.mk_data s
theorem L_inj {s t : ByteArray} (h : L s = L t) : s = t := by rw [← B_L s, ← B_L t, h]
theorem L_iff {s t : ByteArray} : s = t ↔ L s = L t := ⟨fun h => by rw [h], L_inj⟩
theorem toList_L (s : ByteArray) : s.toList = L s := Lib.toList_data s
theorem size_L (s : ByteArray) : s.size = (L s).length := Lib.size_eq s
theorem size_B (l : List UInt8) : (B l).size = l.length := by rw [size_L, L_B]
theorem L_extract (s : ByteArray) (a b : Nat) : L (s.extract a b) = ((L s).drop a).take (b - a) := by
  unfold L
  rw [ByteArray.data_extract, Array.toList_extract, List.extract_eq_take_drop]
theorem L_append (s t : ByteArray) : L (s ++ t) = L s ++ L t := by
  unfold L
  rw [ByteArray.data_append, Array.toList_append]
theorem bt_L (s : ByteArray) (i : Nat) (h : i < (L s).length) : bt s (i : Int) = (((L s)[i]'h).toNat : Int) := by
  have h' : i < s.size := by rw [size_L]; exact h
  unfold bt
  rw [dif_pos (by simpa using h')]
  simp [L, ByteArray.getElem_eq_getElem_data]
theorem bt_B (l : List UInt8) (i : Nat) (h : i < l.length) : bt (B l) (i : Int) = ((l[i]'h).toNat : Int) := by
  rw [bt_L (B l) i (by rw [L_B]; exact h)]
  simp [L_B]
theorem w64 {x : Int} (h0 : -9223372036854775808 ≤ x) (h1 : x ≤ 9223372036854775807) : wrap64 x = x := by
  unfold wrap64; omega
theorem u8_eq (c : UInt8) (n : Nat) (hn : n < 256) : ((c.toNat : Int) = (n : Int)) ↔ c = UInt8.ofNat n := by
  constructor
  · intro h
    apply UInt8.toNat.inj
    rw [UInt8.toNat_ofNat']
    omega
  · intro h
    rw [h, UInt8.toNat_ofNat']
    omega
theorem drop_cons {α : Type} {l : List α} {i : Nat} (h : i < l.length) : l.drop i = l[i] :: l.drop (i + 1) := List.drop_eq_getElem_cons h
/-- Rounds: what is told from some number of rounds on. -/
theorem ev_some {α : Type} {g : Nat → Option α} {r : α} (h : Ev g r) : ∃ k, g k = some r := Ev.rounds h
theorem ev_succ {α : Type} {g : Nat → Option α} {r : α} (h : Ev (fun k => g (k + 1)) r) : Ev g r :=
  Ev.step (f := fun k => g (k + 1)) (fun _ => rfl) h
theorem ev_const {α : Type} {o : Option α} {r : α} (h : o = some r) : Ev (fun _ => o) r := ⟨0, fun _ _ => h⟩
theorem ev_eq {α : Type} {g : Nat → Option α} {r r' : α} (h : Ev g r) (e : r = r') : Ev g r' := e ▸ h
theorem ev_both {α : Type} {g : Nat → Option α} {r r' : α} (h : Ev g r) (h' : Ev g r') : r = r' := by
  obtain ⟨K, hK⟩ := h
  obtain ⟨K', hK'⟩ := h'
  have a := hK (max K K') (Nat.le_max_left _ _)
  have b := hK' (max K K') (Nat.le_max_right _ _)
  rw [a] at b
  exact Option.some.inj b
theorem ev_ite_pos {α : Type} {c : Prop} [Decidable c] {g f : Nat → Option α} {r : α} (hc : c) (h : Ev g r) : Ev (fun k => if c then g k else f k) r :=
  Ev.congr (fun _ => if_pos hc) h
theorem ev_ite_neg {α : Type} {c : Prop} [Decidable c] {g f : Nat → Option α} {r : α} (hc : ¬ c) (h : Ev f r) : Ev (fun k => if c then g k else f k) r :=
  Ev.congr (fun _ => if_neg hc) h
theorem ev_bind {α β : Type} {g : Nat → Option α} {f : Nat → α → Option β} {a : α} {r : β} (h : Ev g a) (k : Ev (fun n => f n a) r) : Ev (fun n => (g n).bind (f n)) r := Ev.bind h k
theorem ev_call {α : Type} {g : Nat → Option α} {r : α} (h : Ev g r) {β : Type} {f : Nat → α → Option β} {q : β} (k : Ev (fun n => f n r) q) : Ev (fun n => (g n).bind (f n)) q := Ev.bind h k
end Go.Proofs.Ytmhbdgnajlnhnaa.Pl
/- Rising lists of texts, plainly. -/
namespace Go.Proofs.Ytmhbdgnajlnhnaa.Pl
open Go.RowKit Go.Proofs.YtmhbdgnajlnhnaaW.PrintWords

theorem lt_irr (a : List UInt8) : ¬ a < a := List.lt_irrefl a
theorem lt_tr {a b c : List UInt8} (h : a < b) (h' : b < c) : a < c := List.lt_trans h h'
theorem lt_or {a b : List UInt8} (h : ¬ a < b) (hne : a ≠ b) : b < a := by
  rcases Decidable.em (b < a) with h' | h'
  · exact h'
  · exact absurd (List.le_antisymm (List.not_lt.1 h') (List.not_lt.1 h)) hne
theorem lt_ne {a b : List UInt8} (h : a < b) : a ≠ b := fun e => lt_irr b (by rw [e] at h; exact h)
/-- is a text less than another one? -/
def ltB (x y : ByteArray) : Prop := L x < L y
instance (x y : ByteArray) : Decidable (ltB x y) := inferInstanceAs (Decidable (L x < L y))
theorem less_ltB (x y : ByteArray) : Op.bytesLess x.toList y.toList = true ↔ ltB x y := by
  rw [Go.Proofs.bytesLess_eq, decide_eq_true_iff, toList_L, toList_L]
  rfl
theorem less_eq (x y : ByteArray) : Op.bytesLess x.toList y.toList = decide (ltB x y) := by
  rw [Bool.eq_iff_iff, less_ltB, decide_eq_true_iff]
theorem ltB_irr (x : ByteArray) : ¬ ltB x x := lt_irr _
theorem ltB_tr {x y z : ByteArray} (h : ltB x y) (h' : ltB y z) : ltB x z := lt_tr h h'
theorem ltB_or {x y : ByteArray} (h : ¬ ltB x y) (hne : x ≠ y) : ltB y x := lt_or h (fun e => hne (L_inj e))
theorem ltB_asymm {x y : ByteArray} (h : ltB x y) : ¬ ltB y x := fun h' => ltB_irr x (ltB_tr h h')
theorem ltB_ne {x y : ByteArray} (h : ltB x y) : x ≠ y := fun e => ltB_irr y (by rw [e] at h; exact h)
/-- a text in its place, once -/
def ins (x : ByteArray) : List ByteArray → List ByteArray
  | [] => [x]
  | y :: t => if ltB y x then y :: ins x t else if y = x then y :: t else x :: y :: t
/-- texts, rising, each once -/
def srt (l : List ByteArray) : List ByteArray := l.foldl (fun a x => ins x a) []
def SS (l : List ByteArray) : Prop := l.Pairwise ltB
theorem mem_ins (x z : ByteArray) : ∀ l, z ∈ ins x l ↔ z = x ∨ z ∈ l
  | [] => by simp [ins]
  | y :: t => by
    unfold ins
    split
    · rw [List.mem_cons, mem_ins x z t, List.mem_cons]
      constructor
      · rintro (h | h | h)
        · exact .inr (.inl h)
        · exact .inl h
        · exact .inr (.inr h)
      · rintro (h | h | h)
        · exact .inr (.inl h)
        · exact .inl h
        · exact .inr (.inr h)
    · split
      · rename_i h; subst h; simp
      · simp
theorem ss_ins (x : ByteArray) : ∀ l, SS l → SS (ins x l)
  | [], _ => by simp [SS, ins]
  | y :: t, h => by
    have h1 := List.pairwise_cons.1 h
    unfold ins
    split
    · rename_i hlt
      refine List.pairwise_cons.2 ⟨fun z hz => ?_, ss_ins x t h1.2⟩
      rcases (mem_ins x z t).1 hz with rfl | hz
      · exact hlt
      · exact h1.1 z hz
    · rename_i hlt
      split
      · exact h
      · rename_i hne
        have hxy : ltB x y := ltB_or hlt hne
        refine List.pairwise_cons.2 ⟨fun z hz => ?_, h⟩
        rcases List.mem_cons.1 hz with rfl | hz
        · exact hxy
        · exact ltB_tr hxy (h1.1 z hz)
theorem foldl_ins (l : List ByteArray) : ∀ acc, SS acc → SS (l.foldl (fun a x => ins x a) acc) ∧ ∀ z, z ∈ l.foldl (fun a x => ins x a) acc ↔ z ∈ acc ∨ z ∈ l := by
  induction l with
  | nil => intro acc h; exact ⟨h, fun z => by simp⟩
  | cons x l ih =>
    intro acc h
    obtain ⟨h1, h2⟩ := ih (ins x acc) (ss_ins x acc h)
    refine ⟨h1, fun z => ?_⟩
    rw [List.foldl_cons, h2 z, mem_ins, List.mem_cons]
    constructor
    · rintro ((h | h) | h)
      · exact .inr (.inl h)
      · exact .inl h
      · exact .inr (.inr h)
    · rintro (h | h | h)
      · exact .inl (.inr h)
      · exact .inl (.inl h)
      · exact .inr h
theorem ss_srt (l : List ByteArray) : SS (srt l) := (foldl_ins l [] List.Pairwise.nil).1
theorem mem_srt (l : List ByteArray) (z : ByteArray) : z ∈ srt l ↔ z ∈ l := by
  rw [srt, (foldl_ins l [] List.Pairwise.nil).2 z]
  simp
theorem ss_uniq : ∀ a b : List ByteArray, SS a → SS b → (∀ z, z ∈ a ↔ z ∈ b) → a = b
  | [], [], _, _, _ => rfl
  | [], y :: t, _, _, h => absurd ((h y).2 List.mem_cons_self) List.not_mem_nil
  | x :: s, [], _, _, h => absurd ((h x).1 List.mem_cons_self) List.not_mem_nil
  | x :: s, y :: t, ha, hb, h => by
    have ha' := List.pairwise_cons.1 ha
    have hb' := List.pairwise_cons.1 hb
    have hxy : x = y := by
      rcases List.mem_cons.1 ((h x).1 List.mem_cons_self) with e | hx
      · exact e
      · rcases List.mem_cons.1 ((h y).2 List.mem_cons_self) with e | hy
        · exact e.symm
        · exact absurd (ha'.1 y hy) (ltB_asymm (hb'.1 x hx))
    subst hxy
    rw [ss_uniq s t ha'.2 hb'.2 (fun z => ?_)]
    have hz := h z
    rw [List.mem_cons, List.mem_cons] at hz
    constructor
    · intro hs
      rcases hz.1 (.inr hs) with e | ht
      · subst e; exact absurd (ha'.1 z hs) (ltB_irr z)
      · exact ht
    · intro ht
      rcases hz.2 (.inr ht) with e | hs
      · subst e; exact absurd (hb'.1 z ht) (ltB_irr z)
      · exact hs
theorem srt_ext {a b : List ByteArray} (h : ∀ z, z ∈ a ↔ z ∈ b) : srt a = srt b := ss_uniq _ _ (ss_srt a) (ss_srt b) (fun z => by rw [mem_srt, mem_srt, h z])
theorem srt_same {a : List ByteArray} (h : SS a) : srt a = a := ss_uniq _ _ (ss_srt a) h (mem_srt a)
theorem ss_nodup {a : List ByteArray} (h : SS a) : a.Nodup := h.imp (fun h => ltB_ne h)
theorem ins_len (x : ByteArray) : ∀ l, (ins x l).length ≤ l.length + 1
  | [] => by simp [ins]
  | y :: t => by
    unfold ins
    split
    · have := ins_len x t; simp; omega
    · split <;> simp
theorem srt_len (l : List ByteArray) : (srt l).length ≤ l.length := by
  have key : ∀ l acc : List ByteArray, (l.foldl (fun a x => ins x a) acc).length ≤ acc.length + l.length := by
    intro l
    induction l with
    | nil => intro acc; simp
    | cons x l ih => intro acc; have h1 := ih (ins x acc); have h2 := ins_len x acc; simp at h1 ⊢; omega
  have := key l []
  simpa [srt] using this
end Go.Proofs.Ytmhbdgnajlnhnaa.Pl
/- The last changes, in a ring; sorting and striking twins, plainly. -/
namespace Go.Proofs.Ytmhbdgnajlnhnaa.Pl
open Go.RowKit Go.Proofs.YtmhbdgnajlnhnaaW.PrintWords

/-- what a ring of 32 places holds behind changes -/
def ringS (C : List ByteArray) : List ByteArray × Nat := C.foldl (fun r p => (r.1.set (r.2 % 32) p, r.2 + 1)) (List.replicate 32 ⟨#[]⟩, 0)
def ring (C : List ByteArray) : List ByteArray := (ringS C).1
theorem ringS_snoc (C : List ByteArray) (p : ByteArray) : ringS (C ++ [p]) = ((ringS C).1.set ((ringS C).2 % 32) p, (ringS C).2 + 1) := by
  unfold ringS
  rw [List.foldl_append]
  rfl
theorem snoc_ind {α : Type} {P : List α → Prop} (h0 : P []) (h1 : ∀ l a, P l → P (l ++ [a])) (l : List α) : P l := by
  have key : ∀ (n : Nat) (l : List α), l.length = n → P l := by
    intro n
    induction n with
    | zero => intro l hl; rw [List.eq_nil_of_length_eq_zero hl]; exact h0
    | succ n ih =>
      intro l hl
      rcases List.eq_nil_or_concat l with rfl | ⟨l', a, rfl⟩
      · exact h0
      · rw [List.concat_eq_append] at hl ⊢
        exact h1 l' a (ih l' (by simp at hl; exact hl))
  exact key l.length l rfl
theorem ring_inv (C : List ByteArray) : (ring C).length = 32 ∧ (ringS C).2 = C.length ∧ ∀ j, j < C.length → C.length ≤ j + 32 → (ring C)[j % 32]? = C[j]? := by
  refine snoc_ind (P := fun C => (ring C).length = 32 ∧ (ringS C).2 = C.length ∧ ∀ j, j < C.length → C.length ≤ j + 32 → (ring C)[j % 32]? = C[j]?) ?_ ?_ C
  · exact ⟨by rfl, rfl, fun j h => absurd h (Nat.not_lt_zero _)⟩
  · rintro C p ⟨h1, h2, h3⟩
    have e : ring (C ++ [p]) = (ring C).set (C.length % 32) p := by
      unfold ring
      rw [ringS_snoc, h2]
    refine ⟨by rw [e, List.length_set]; exact h1, by rw [ringS_snoc, h2]; simp, fun j hj hl => ?_⟩
    simp only [List.length_append, List.length_singleton] at hj hl
    rw [e]
    by_cases hjc : j = C.length
    · subst hjc
      rw [List.getElem?_set_self (by rw [h1]; exact Nat.mod_lt _ (by decide))]
      simp
    · have hjl : j < C.length := by omega
      rw [List.getElem?_set_ne (by omega), h3 j hjl (by omega), List.getElem?_append_left hjl]
theorem ring_snoc (C : List ByteArray) (p : ByteArray) : ring (C ++ [p]) = (ring C).set (C.length % 32) p := by
  unfold ring
  rw [ringS_snoc, (ring_inv C).2.1]
theorem ring_len (C : List ByteArray) : (ring C).length = 32 := (ring_inv C).1
theorem ring_get (C : List ByteArray) {j : Nat} (h : j < C.length) (h' : C.length ≤ j + 32) : (ring C)[j % 32]? = C[j]? := (ring_inv C).2.2 j h h'
def leL (x y : List UInt8) : Bool := decide (x ≤ y)
theorem leL_tr (a b c : List UInt8) (h : leL a b = true) (h' : leL b c = true) : leL a c = true := by
  unfold leL at *
  simp only [decide_eq_true_eq] at *
  exact List.le_trans h h'
theorem leL_tot (a b : List UInt8) : (leL a b || leL b a) = true := by
  unfold leL
  rw [Bool.or_eq_true, decide_eq_true_iff, decide_eq_true_iff]
  exact List.le_total a b
theorem lt_of_le {a b : List UInt8} (h : a ≤ b) (hne : a ≠ b) : a < b := by
  rcases Decidable.em (a < b) with h' | h'
  · exact h'
  · exact absurd (List.le_antisymm h (List.not_lt.1 h')) hne
/-- twins struck out of what does not fall -/
theorem compact_rise (zs : List (List UInt8)) (h : zs.Pairwise (fun a b => leL a b = true)) : (Lib.compact zs).Pairwise (· < ·) ∧ ∀ x, x ∈ Lib.compact zs ↔ x ∈ zs := by
  have hget : ∀ j, j < zs.length → zs.toArray[j]! = zs[j]! := fun j hj => by simp
  have hle : ∀ i j (hi : i ≤ j) (hj : j < zs.length), (zs[i]'(by omega)) ≤ zs[j] := by
    intro i j hi hj
    rcases Nat.eq_or_lt_of_le hi with rfl | hlt
    · exact List.le_refl _
    · have := List.pairwise_iff_getElem.1 h i j (by omega) hj hlt
      unfold leL at this
      exact of_decide_eq_true this
  unfold Lib.compact Lib.compactUpTo
  constructor
  · rw [List.pairwise_map]
    have hr : (List.range zs.length).Pairwise (· < ·) := List.pairwise_lt_range
    have hr2 := List.Pairwise.filter (Lib.keeps zs.toArray) hr
    refine hr2.imp_of_mem (fun {i j} hi hj hlt => ?_)
    have hj1 := List.mem_filter.1 hj
    have hi1 := List.mem_filter.1 hi
    have hjl : j < zs.length := List.mem_range.1 hj1.1
    have hil : i < zs.length := List.mem_range.1 hi1.1
    rw [getElem!_pos zs.toArray i (by simpa using hil), getElem!_pos zs.toArray j (by simpa using hjl)]
    simp only [List.getElem_toArray]
    have hk := hj1.2
    have hne : zs[j] ≠ zs[j - 1]'(by omega) := by
      intro e
      have := Lib.keeps_neg (d := zs.toArray) (m := j) (by omega) (by
        rw [getElem!_pos zs.toArray j (by simpa using hjl), getElem!_pos zs.toArray (j - 1) (by simp; omega)]
        simpa using e)
      rw [this] at hk
      cases hk
    have h1 := hle i (j - 1) (by omega) (by omega)
    have h2 := hle (j - 1) j (by omega) hjl
    have h3 := lt_of_le h2 (fun e => hne e.symm)
    exact List.lt_of_le_of_lt h1 h3
  · intro x
    constructor
    · intro hx
      obtain ⟨j, hj, rfl⟩ := List.mem_map.1 hx
      have hjl : j < zs.length := List.mem_range.1 (List.mem_filter.1 hj).1
      rw [getElem!_pos zs.toArray j (by simpa using hjl)]
      simp
    · intro hx
      obtain ⟨j, hj, rfl⟩ := List.getElem_of_mem hx
      have key : ∀ j (hj : j < zs.length), zs[j] ∈ ((List.range zs.length).filter (Lib.keeps zs.toArray)).map (zs.toArray[·]!) := by
        intro j
        induction j with
        | zero =>
          intro hj
          refine List.mem_map.2 ⟨0, List.mem_filter.2 ⟨List.mem_range.2 hj, Lib.keeps_lt_one _ 0 (by omega)⟩, ?_⟩
          rw [getElem!_pos zs.toArray 0 (by simpa using hj)]
          simp
        | succ j ih =>
          intro hj
          by_cases e : zs[j + 1] = zs[j]'(by omega)
          · rw [e]; exact ih (by omega)
          · refine List.mem_map.2 ⟨j + 1, List.mem_filter.2 ⟨List.mem_range.2 hj, Lib.keeps_pos ?_⟩, ?_⟩
            · rw [getElem!_pos zs.toArray (j + 1) (by simpa using hj), getElem!_pos zs.toArray (j + 1 - 1) (by simp; omega)]
              simpa using e
            · rw [getElem!_pos zs.toArray (j + 1) (by simpa using hj)]
              simp
      exact key j hj
/-- a list, sorted -/
def msrt (l : List ByteArray) : List ByteArray := ((l.map L).mergeSort leL).map B
theorem msrt_L (l : List ByteArray) : (msrt l).map L = (l.map L).mergeSort leL := by
  unfold msrt
  rw [List.map_map, show L ∘ B = id by funext x; exact L_B x, List.map_id]
theorem msrt_len (l : List ByteArray) : (msrt l).length = l.length := by simp [msrt, List.length_mergeSort]
theorem compact_srt (l : List ByteArray) : (Lib.compact ((l.map L).mergeSort leL)).map B = srt l := by
  obtain ⟨h1, h2⟩ := compact_rise ((l.map L).mergeSort leL) (List.pairwise_mergeSort leL_tr leL_tot _)
  refine ss_uniq _ _ ?_ (ss_srt l) (fun z => ?_)
  · unfold SS
    rw [List.pairwise_map]
    exact h1.imp (fun {a b} h => by unfold ltB; rw [L_B, L_B]; exact h)
  · rw [mem_srt]
    constructor
    · intro h
      obtain ⟨x, hx, rfl⟩ := List.mem_map.1 h
      have := (h2 x).1 hx
      rw [List.mem_mergeSort] at this
      obtain ⟨y, hy, rfl⟩ := List.mem_map.1 this
      rw [B_L]; exact hy
    · intro h
      exact List.mem_map.2 ⟨L z, (h2 _).2 (List.mem_mergeSort.2 (List.mem_map.2 ⟨z, h, rfl⟩)), B_L z⟩
/-- of a list without twins the sorted one rises -/
theorem msrt_srt {l : List ByteArray} (h : l.Nodup) : msrt l = srt l := by
  refine ss_uniq _ _ ?_ (ss_srt l) (fun z => ?_)
  · have hp := List.pairwise_mergeSort leL_tr leL_tot (l.map L)
    have hn : ((l.map L).mergeSort leL).Nodup := (List.mergeSort_perm _ _).nodup_iff.2 (List.pairwise_map.2 (h.imp fun {a b} hne e => hne (L_inj e)))
    unfold SS msrt
    rw [List.pairwise_map]
    refine (hp.and hn).imp (fun {a b} h => ?_)
    unfold ltB
    rw [L_B, L_B]
    exact lt_of_le (of_decide_eq_true h.1) h.2
  · rw [mem_srt]
    unfold msrt
    constructor
    · intro h
      obtain ⟨x, hx, rfl⟩ := List.mem_map.1 h
      rw [List.mem_mergeSort] at hx
      obtain ⟨y, hy, rfl⟩ := List.mem_map.1 hx
      rw [B_L]; exact hy
    · intro h
      exact List.mem_map.2 ⟨L z, List.mem_mergeSort.2 (List.mem_map.2 ⟨z, h, rfl⟩), B_L z⟩
end Go.Proofs.Ytmhbdgnajlnhnaa.Pl
/- Graphs, plainly: names that rise, to which names edges lead. -/
namespace Go.Proofs.Ytmhbdgnajlnhnaa.Pl
open Go.RowKit Go.Proofs.YtmhbdgnajlnhnaaW.PrintWords
def hasB (l : List ByteArray) (s : ByteArray) : Bool := l.any (fun x => decide (x = s))
theorem hasB_iff {l : List ByteArray} {s : ByteArray} : hasB l s = true ↔ s ∈ l := by
  unfold hasB
  rw [List.any_eq_true]
  constructor
  · rintro ⟨x, hx, h⟩
    rw [← of_decide_eq_true h]; exact hx
  · exact fun h => ⟨s, h, decide_eq_true rfl⟩
theorem hasB_false {l : List ByteArray} {s : ByteArray} : hasB l s = false ↔ s ∉ l := by
  rw [← hasB_iff, Bool.not_eq_true]
theorem ins_same {x : ByteArray} {l : List ByteArray} (hl : SS l) (h : x ∈ l) : ins x l = l :=
  ss_uniq _ _ (ss_ins x l hl) hl (fun z => by rw [mem_ins]; exact ⟨fun h' => by rcases h' with rfl | h'; exact h; exact h', fun h' => .inr h'⟩)
theorem ins_len_new {x : ByteArray} {l : List ByteArray} (hl : SS l) (h : x ∉ l) : (ins x l).length = l.length + 1 := by
  have h1 := ins_len x l
  have hs : (x :: l).Nodup := List.nodup_cons.2 ⟨h, ss_nodup hl⟩
  have h2 : (ins x l).Perm (x :: l) := (List.perm_ext_iff_of_nodup (ss_nodup (ss_ins x l hl)) hs).2 (fun z => by rw [mem_ins, List.mem_cons])
  rw [h2.length_eq, List.length_cons]
/-- a graph: its names, and to which names edges lead from each -/
structure GG where
  ns : List ByteArray
  out : ByteArray → List ByteArray
/-- from which names edges lead to one -/
def GG.inn (G : GG) (t : ByteArray) : List ByteArray := G.ns.filter (fun s => hasB (G.out s) t)
structure GOk (G : GG) : Prop where
  rise : SS G.ns
  outs : ∀ s, SS (G.out s)
  none : ∀ s, s ∉ G.ns → G.out s = []
  inside : ∀ s t, t ∈ G.out s → t ∈ G.ns
  short : ∀ s, s ∈ G.ns → s.size ≤ maxLen
theorem GG.mem_inn {G : GG} (h : GOk G) (s t : ByteArray) : s ∈ G.inn t ↔ t ∈ G.out s := by
  unfold GG.inn
  rw [List.mem_filter, hasB_iff]
  constructor
  · exact fun h => h.2
  · refine fun ht => ⟨?_, ht⟩
    by_cases hs : s ∈ G.ns
    · exact hs
    · rw [h.none s hs] at ht; cases ht
theorem GG.ss_inn {G : GG} (h : GOk G) (t : ByteArray) : SS (G.inn t) := h.rise.sublist List.filter_sublist
theorem GG.inn_none {G : GG} (h : GOk G) {t : ByteArray} (ht : t ∉ G.ns) : G.inn t = [] := by
  unfold GG.inn
  rw [List.filter_eq_nil_iff]
  intro s _ hs
  exact ht (h.inside s t (hasB_iff.1 hs))
def emptyG : GG := ⟨[], fun _ => []⟩
theorem emptyG_ok : GOk emptyG := ⟨List.Pairwise.nil, fun _ => List.Pairwise.nil, fun _ _ => rfl, fun s t h => (by cases h), fun s h => (by cases h)⟩
def addG (G : GG) (n : ByteArray) : GG := ⟨ins n G.ns, G.out⟩
theorem addG_ok {G : GG} (h : GOk G) {n : ByteArray} (hn : n.size ≤ maxLen) : GOk (addG G n) :=
  ⟨ss_ins n G.ns h.rise, h.outs, fun s hs => h.none s (fun h' => hs ((mem_ins n s G.ns).2 (.inr h'))), fun s t ht => (mem_ins n t G.ns).2 (.inr (h.inside s t ht)), fun s hs => by
    rcases (mem_ins n s G.ns).1 hs with rfl | hs
    · exact hn
    · exact h.short s hs⟩
theorem addG_same {G : GG} (h : GOk G) {n : ByteArray} (hn : n ∈ G.ns) : addG G n = G := by unfold addG; rw [ins_same h.rise hn]
/-- an edge between names that are there -/
def edgeG (G : GG) (a b : ByteArray) : GG := ⟨G.ns, fun s => if s = a then ins b (G.out a) else G.out s⟩
theorem edgeG_ok {G : GG} (h : GOk G) {a b : ByteArray} (ha : a ∈ G.ns) (hb : b ∈ G.ns) : GOk (edgeG G a b) := by
  refine ⟨h.rise, fun s => ?_, fun s hs => ?_, fun s t ht => ?_, h.short⟩
  · show SS (if s = a then ins b (G.out a) else G.out s)
    split
    · exact ss_ins b _ (h.outs a)
    · exact h.outs s
  · show (if s = a then ins b (G.out a) else G.out s) = []
    rw [if_neg (fun (e : s = a) => hs (by rw [e]; exact ha))]
    exact h.none s hs
  · have ht : t ∈ (if s = a then ins b (G.out a) else G.out s) := ht
    split at ht
    · rcases (mem_ins b t _).1 ht with rfl | ht
      · exact hb
      · exact h.inside a t ht
    · exact h.inside s t ht
def linkG (G : GG) (a b : ByteArray) : GG := edgeG (addG (addG G a) b) a b
theorem linkG_ok {G : GG} (h : GOk G) {a b : ByteArray} (ha : a.size ≤ maxLen) (hb : b.size ≤ maxLen) : GOk (linkG G a b) :=
  edgeG_ok (addG_ok (addG_ok h ha) hb) ((mem_ins b a _).2 (.inr ((mem_ins a a _).2 (.inl rfl)))) ((mem_ins b b _).2 (.inl rfl))
/-- behind an edge: what leads to a name -/
theorem edge_inn {G : GG} (h : GOk G) {a b : ByteArray} (ha : a ∈ G.ns) (hb : b ∈ G.ns) (t : ByteArray) : (edgeG G a b).inn t = if t = b then ins a (G.inn b) else G.inn t := by
  have hok := edgeG_ok h ha hb
  refine ss_uniq _ _ (GG.ss_inn hok t) ?_ (fun z => ?_)
  · split
    · exact ss_ins a _ (GG.ss_inn h b)
    · exact GG.ss_inn h t
  · rw [GG.mem_inn hok]
    show t ∈ (if z = a then ins b (G.out a) else G.out z) ↔ _
    by_cases hz : z = a
    · subst hz
      rw [if_pos rfl, mem_ins]
      by_cases ht : t = b
      · subst ht; rw [if_pos rfl, mem_ins]; simp
      · rw [if_neg ht, GG.mem_inn h]
        exact ⟨fun h' => by rcases h' with h' | h'; exact absurd h' ht; exact h', fun h' => .inr h'⟩
    · rw [if_neg hz]
      by_cases ht : t = b
      · subst ht; rw [if_pos rfl, mem_ins, GG.mem_inn h]
        exact ⟨fun h' => .inr h', fun h' => by rcases h' with h' | h'; exact absurd h' hz; exact h'⟩
      · rw [if_neg ht, GG.mem_inn h]
theorem add_inn {G : GG} (h : GOk G) {n : ByteArray} (hn : n.size ≤ maxLen) (t : ByteArray) : (addG G n).inn t = G.inn t :=
  ss_uniq _ _ (GG.ss_inn (addG_ok h hn) t) (GG.ss_inn h t) (fun z => by rw [GG.mem_inn (addG_ok h hn), GG.mem_inn h]; exact Iff.rfl)
end Go.Proofs.Ytmhbdgnajlnhnaa.Pl
