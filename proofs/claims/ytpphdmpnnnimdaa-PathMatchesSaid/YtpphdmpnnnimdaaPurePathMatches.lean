/- A text fits a pattern with just one stem, or not at all, by the program as by the reference: texts of at most 2^20 bytes together; longer ones are let go. No condition. -/
import Derived.Test.YtpphdmpnnnimdaaPlPathC
import Derived.Test.YtpphdmpnnnimdaaPxf8
namespace Go.Proofs.Ytpphdmpnnnimdaa.Pl
open Go.RowKit Go.Proofs.Ytpphdmpnnnimdaa.P Go.Proofs.YtpphdmpnnnimdaaW.PrintWords Go.Proofs.YtpphdmpnnnimdaaW.PrintLast
set_option linter.unusedSimpArgs false

theorem contains_no (b : List UInt8) (hb : (37 : UInt8) ∉ b) : strings_Contains.f (B b) (⟨#[37]⟩ : ByteArray) = some false := by
  unfold strings_Contains.f strings_Index.f stringslite_Index.f
  rw [if_pos (show (⟨#[37]⟩ : ByteArray).size = 1 from rfl)]
  simp only [Option.bind_some]
  rcases ib_cases b 37 with ⟨h, _⟩ | ⟨i, _, _, h, _⟩
  · rw [show (B b).data.toList = b from L_B b, show (⟨#[37]⟩ : ByteArray).data.toList.headD 0 = 37 from rfl, h]
    rfl
  · exact absurd (h ▸ List.mem_append_right _ List.mem_cons_self) hb
theorem contains_yes (b : List UInt8) (hb : (37 : UInt8) ∈ b) : strings_Contains.f (B b) (⟨#[37]⟩ : ByteArray) = some true := by
  unfold strings_Contains.f strings_Index.f stringslite_Index.f
  rw [if_pos (show (⟨#[37]⟩ : ByteArray).size = 1 from rfl)]
  simp only [Option.bind_some]
  rcases ib_cases b 37 with ⟨_, h⟩ | ⟨i, h, _, _, _⟩
  · exact absurd hb h
  · rw [show (B b).data.toList = b from L_B b, show (⟨#[37]⟩ : ByteArray).data.toList.headD 0 = 37 from rfl, h]
    exact congrArg some (decide_eq_true (by omega))
/-- a mark's last place, and how many there are -/
def scan : List UInt8 → Nat → Nat → Nat → Nat × Nat
  | [], _, p, n => (p, n)
  | c :: l, i, p, n => if c = 37 then scan l (i + 1) i (n + 1) else scan l (i + 1) p n
theorem scan_none {l : List UInt8} (h : (37 : UInt8) ∉ l) : ∀ i p n, scan l i p n = (p, n) := by
  induction l with
  | nil => intro i p n; rfl
  | cons c l ih =>
    intro i p n
    have hc : c ≠ 37 := fun e => h (by rw [e]; exact List.mem_cons_self)
    rw [scan, if_neg hc]
    exact ih (fun e => h (List.mem_cons_of_mem _ e)) _ _ _
theorem scan_app {a : List UInt8} (h : (37 : UInt8) ∉ a) (b : List UInt8) : ∀ i p n, scan (a ++ b) i p n = scan b (i + a.length) p n := by
  induction a with
  | nil => intro i p n; rfl
  | cons c l ih =>
    intro i p n
    have hc : c ≠ 37 := fun e => h (by rw [e]; exact List.mem_cons_self)
    rw [List.cons_append, scan, if_neg hc, ih (fun e => h (List.mem_cons_of_mem _ e)), List.length_cons]
    congr 1
    omega
theorem scan_ge (l : List UInt8) : ∀ i p n, n ≤ (scan l i p n).2 := by
  induction l with
  | nil => intro i p n; exact Nat.le_refl _
  | cons c l ih =>
    intro i p n
    rw [scan]
    split
    · exact Nat.le_trans (Nat.le_succ n) (ih _ _ _)
    · exact ih _ _ _
theorem scan_more {l : List UInt8} (h : (37 : UInt8) ∈ l) : ∀ i p n, n + 1 ≤ (scan l i p n).2 := by
  obtain ⟨a, b, rfl, hn⟩ := first_split h
  intro i p n
  rw [scan_app hn, scan, if_pos rfl]
  exact scan_ge _ _ _ _
theorem refmatch_l0 (x y : ByteArray) (hx : x.size ≤ 1000000000) {r : ByteArray × Bool} : ∀ d i p n : Nat, i + d = x.size → n ≤ i →
    Ev (fun k => if ((scan ((L x).drop i) i p n).2 : Int) = 0 then (some ((⟨#[]⟩ : ByteArray), (x.toList == y.toList))) else (if ((scan ((L x).drop i) i p n).2 : Int) > 1 then (brickyardref09_Match.j1 k x y ((scan ((L x).drop i) i p n).1 : Int) true) else (brickyardref09_Match.j1 k x y ((scan ((L x).drop i) i p n).1 : Int) (decide ((y.size : Int) < (x.size : Int)))))) r →
    Ev (fun k => brickyardref09_Match.l0 k x y (p : Int) (n : Int) (i : Int)) r := by
  intro d
  have hsz := size_L x
  induction d with
  | zero =>
    intro i p n hi hn h
    rw [List.drop_of_length_le (by omega)] at h
    refine ev_succ ?_
    simp only [brickyardref09_Match.l0]
    exact ev_ite_neg (by omega) h
  | succ d ih =>
    intro i p n hi hn h
    have hlt : i < (L x).length := by omega
    rw [drop_cons hlt] at h
    refine ev_succ ?_
    simp only [brickyardref09_Match.l0]
    refine ev_ite_pos (by omega) (ev_ite_pos (by omega) ?_)
    rw [bt_L x i hlt, wsucc (i := i) (by omega), wsucc (i := n) (by omega)]
    by_cases hc : (L x)[i] = 37
    · refine ev_ite_pos (by rw [hc]; rfl) (ih (i + 1) i (n + 1) (by omega) (by omega) ?_)
      simp only [scan, if_pos hc] at h
      exact h
    · refine ev_ite_neg (fun e => hc ?_) (ih (i + 1) p n (by omega) (by omega) ?_)
      · have : (L x)[i].toNat = 37 := by omega
        exact UInt8.toNat.inj this
      · simp only [scan, if_neg hc] at h
        exact h
def matchL (p s : List UInt8) : List UInt8 × Bool :=
  if (37 : UInt8) ∈ p then
    let a := p.take (Lib.indexByte p 37).toNat
    let b := p.drop ((Lib.indexByte p 37).toNat + 1)
    if (37 : UInt8) ∈ b then ([], false) else if s.length ≤ a.length + b.length then ([], false) else if s.take a.length = a then (if s.drop (s.length - b.length) = b then ((s.drop a.length).take (s.length - b.length - a.length), true) else ([], false)) else ([], false)
  else ([], decide (p = s))
/-- the stem, if there is one -/
def stem (a b s : List UInt8) : ByteArray × Bool :=
  if s.length ≤ a.length + b.length then (⟨#[]⟩, false) else if s.take a.length = a then (if s.drop (s.length - b.length) = b then (B ((s.drop a.length).take (s.length - b.length - a.length)), true) else (⟨#[]⟩, false)) else (⟨#[]⟩, false)
theorem refmatch_one (x y : ByteArray) (hx : x.size ≤ 1000000000) (hy : y.size ≤ 1000000000) (a b : List UInt8) (he : L x = a ++ 37 :: b) (ha : (37 : UInt8) ∉ a) (hb : (37 : UInt8) ∉ b) :
    Ev (fun k => brickyardref09_Match.f k x y) (stem a b (L y)) := by
  simp only [brickyardref09_Match.f]
  have hsz := size_L x
  have hsy := size_L y
  have hl : (L x).length = a.length + 1 + b.length := by rw [he]; simp; omega
  refine refmatch_l0 x y hx x.size 0 0 0 (by omega) (Nat.le_refl _) ?_
  rw [List.drop_zero, he, scan_app ha, scan, if_pos rfl, scan_none hb]
  refine ev_ite_neg (by simp) (ev_ite_neg (by simp) ?_)
  refine ev_succ ?_
  simp only [brickyardref09_Match.j1]
  refine ev_const ?_
  unfold stem
  by_cases h1 : (L y).length ≤ a.length + b.length
  · rw [if_pos h1, if_pos (decide_eq_true (by omega))]
  · rw [if_neg h1, if_neg (by rw [decide_eq_false (by omega)]; simp), Nat.zero_add]
    have w1 : wrap64 ((x.size : Int) - (a.length : Int)) = ((b.length + 1 : Nat) : Int) := by rw [w64 (by omega) (by omega)]; omega
    have w2 : wrap64 (((b.length + 1 : Nat) : Int) - 1) = (b.length : Int) := by rw [w64 (by omega) (by omega)]; omega
    have w3 : wrap64 ((y.size : Int) - (b.length : Int)) = ((y.size - b.length : Nat) : Int) := by rw [w64 (by omega) (by omega)]; omega
    rw [w1, w2, w3, wsucc (i := a.length) (by omega), if_pos (by omega), if_pos (by omega), if_pos (by omega)]
    simp only [toList_L, L_extract, Int.toNat_natCast, he]
    have t1 : ((a ++ 37 :: b).drop 0).take (a.length - 0) = a := by simp
    have t2 : ((L y).drop 0).take (a.length - 0) = (L y).take a.length := by simp
    have t3 : ((a ++ 37 :: b).drop (a.length + 1)).take (x.size - (a.length + 1)) = b := by
      rw [show a ++ 37 :: b = (a ++ [37]) ++ b by simp, show a.length + 1 = (a ++ [(37 : UInt8)]).length by simp, List.drop_left]
      exact List.take_of_length_le (by simp; omega)
    have t4 : ((L y).drop (y.size - b.length)).take (y.size - (y.size - b.length)) = (L y).drop ((L y).length - b.length) := by
      rw [hsy]
      exact List.take_of_length_le (by simp)
    rw [t1, t2, t3, t4]
    by_cases h2 : (L y).take a.length = a
    · rw [if_pos h2, if_pos h2, if_pos (by omega), if_pos (by omega), if_pos (by omega), if_pos (by omega)]
      by_cases h3 : (L y).drop ((L y).length - b.length) = b
      · rw [if_pos h3, if_pos h3, if_pos (by omega)]
        congr 2
        apply L_inj
        rw [L_extract, L_B, hsy]
      · rw [if_neg h3, if_neg h3]
    · rw [if_neg h2, if_neg h2]
theorem pathmatch_one (x y : ByteArray) (hx : x.size ≤ 1000000000) (hy : y.size ≤ 1000000000) (a b : List UInt8) (he : L x = a ++ 37 :: b) (ha : (37 : UInt8) ∉ a) (hb : (37 : UInt8) ∉ b) :
    path_Match.f x y = some (stem a b (L y)) := by
  have hsz := size_L x
  have hsy := size_L y
  have hl : (L x).length = a.length + 1 + b.length := by rw [he]; simp; omega
  unfold path_Match.f
  rw [cut_some x 37 (by omega) a b ha he, Option.bind_some, if_pos rfl]
  dsimp only
  have hc := contains_no b hb
  rw [hc, Option.bind_some, if_neg (by simp), size_B, size_B, w64 (x := ((a.length : Nat) : Int) + ((b.length : Nat) : Int)) (by omega) (by omega)]
  unfold stem
  by_cases h1 : (L y).length ≤ a.length + b.length
  · rw [if_pos h1, if_pos (by omega)]
  · rw [if_neg h1, if_neg (by omega)]
    have hp : strings_HasPrefix.f y (B a) = some (decide ((L y).take a.length = a)) := by
      unfold strings_HasPrefix.f stringslite_HasPrefix.f
      rw [size_B, if_pos (by omega), if_pos (by omega), if_pos (by omega)]
      rw [Option.bind_some]
      simp only [toList_L, L_extract, L_B, Int.toNat_natCast]
      rw [List.drop_zero, Nat.sub_zero]
      exact congrArg some (by rw [Bool.eq_iff_iff]; simp)
    have hs : strings_HasSuffix.f y (B b) = some (decide ((L y).drop ((L y).length - b.length) = b)) := by
      unfold strings_HasSuffix.f stringslite_HasSuffix.f
      rw [size_B, if_pos (by omega), w64 (x := (y.size : Int) - ((b.length : Nat) : Int)) (by omega) (by omega), if_pos (by omega), if_pos (by omega)]
      rw [Option.bind_some]
      simp only [toList_L, L_extract, L_B]
      rw [show ((y.size : Int) - ((b.length : Nat) : Int)).toNat = y.size - b.length by omega, hsy, List.take_of_length_le (by simp)]
      exact congrArg some (by rw [Bool.eq_iff_iff]; simp)
    rw [hp, Option.bind_some]
    by_cases h2 : (L y).take a.length = a
    · rw [if_pos h2, if_pos (decide_eq_true h2), hs, Option.bind_some]
      by_cases h3 : (L y).drop ((L y).length - b.length) = b
      · rw [if_pos h3, if_pos (decide_eq_true h3), w64 (x := (y.size : Int) - ((b.length : Nat) : Int)) (by omega) (by omega), if_pos (by omega), if_pos (by omega), if_pos (by omega)]
        congr 2
        apply L_inj
        rw [L_extract, L_B, show ((y.size : Int) - ((b.length : Nat) : Int)).toNat = y.size - b.length by omega, Int.toNat_natCast, hsy]
      · rw [if_neg h3, if_neg (by simpa using h3)]
    · rw [if_neg h2, if_neg (by simpa using h2)]
theorem match_ev (x y : ByteArray) (hx : x.size ≤ 1000000000) (hy : y.size ≤ 1000000000) : ∃ r : ByteArray × Bool, path_Match.f x y = some r ∧ Ev (fun k => brickyardref09_Match.f k x y) r := by
  have hsz := size_L x
  by_cases h : (37 : UInt8) ∈ L x
  · obtain ⟨a, b, he, ha⟩ := first_split h
    by_cases hb : (37 : UInt8) ∈ b
    · refine ⟨(⟨#[]⟩, false), ?_, ?_⟩
      · unfold path_Match.f
        rw [cut_some x 37 (by omega) a b ha he, Option.bind_some, if_pos rfl]
        dsimp only
        rw [contains_yes b hb, Option.bind_some, if_pos rfl]
      · simp only [brickyardref09_Match.f]
        refine refmatch_l0 x y hx x.size 0 0 0 (by omega) (Nat.le_refl _) ?_
        rw [List.drop_zero, he, scan_app ha, scan, if_pos rfl]
        have h2 := scan_more hb (0 + a.length + 1) (0 + a.length) (0 + 1)
        refine ev_ite_neg (by omega) (ev_ite_pos (by omega) (ev_succ ?_))
        simp only [brickyardref09_Match.j1]
        exact ev_ite_pos trivial (ev_const rfl)
    · exact ⟨_, pathmatch_one x y hx hy a b he ha hb, refmatch_one x y hx hy a b he ha hb⟩
  · refine ⟨(⟨#[]⟩, (x.toList == y.toList)), ?_, ?_⟩
    · unfold path_Match.f
      rw [cut_none x 37 h, Option.bind_some, if_neg (by simp)]
    · simp only [brickyardref09_Match.f]
      refine refmatch_l0 x y hx x.size 0 0 0 (by omega) (Nat.le_refl _) ?_
      rw [List.drop_zero, scan_none h]
      exact ev_ite_pos rfl (ev_const rfl)
end Go.Proofs.Ytpphdmpnnnimdaa.Pl
namespace Go.Proofs.Ytpphdmpnnnimdaa.Pure
open Go.RowKit Go.Proofs.Ytpphdmpnnnimdaa.P Go.Proofs.YtpphdmpnnnimdaaW.PrintWords Go.Proofs.YtpphdmpnnnimdaaW.PrintLast Go.Proofs.Ytpphdmpnnnimdaa.Pl

theorem PathMatches : brickyardlaw09_PathMatches.Pure := by
  intro a0 a1 h0 h1
  refine Ev.rounds (r := true) ?_
  unfold brickyardlaw09_PathMatches.f
  refine ev_bind (ev_const (show brickyardlaw09_works.f = some true from rfl)) (ev_ite_pos rfl ?_)
  rw [w64 (by omega) (by omega)]
  refine ev_bind (ev_const (show brickyardlaw09_long.f ((a0.size : Int) + (a1.size : Int)) = some (decide ((a0.size : Int) + (a1.size : Int) > 1048576)) from rfl)) ?_
  by_cases h : (a0.size : Int) + (a1.size : Int) > 1048576
  · exact ev_ite_pos (decide_eq_true h) (ev_const rfl)
  · refine ev_ite_neg (by simpa using h) ?_
    obtain ⟨r, e1, e2⟩ := match_ev a0 a1 (by omega) (by omega)
    exact ev_bind (ev_const e1) (ev_bind e2 (ev_ite_pos rfl (ev_const (by simp))))

end Go.Proofs.Ytpphdmpnnnimdaa.Pure
