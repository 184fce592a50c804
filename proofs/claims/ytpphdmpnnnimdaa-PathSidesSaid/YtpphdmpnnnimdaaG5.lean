/- path.Glob: the machine's walk through the label and its four gotos. -/
import Derived.Test.YtpphdmpnnnimdaaPlGlobR
import Derived.Test.YtpphdmpnnnimdaaProg
import Derived.Test.YtpphdmpnnnimdaaPx0
import Derived.WalkMore
import Derived.ScopeJumps
import Derived.BigQuiet
namespace Go.Proofs.Ytpphdmpnnnimdaa.P
open Go.RowKit Go.Proofs.YtpphdmpnnnimdaaW.PrintWords Go.Proofs.YtpphdmpnnnimdaaW.PrintLast Go.Proofs.YtpphdmpnnnimdaaW.PrintMore
set_option linter.unusedVariables false
set_option linter.unusedSimpArgs false

theorem least_of {p : Nat → Prop} : (∃ n, p n) → ∃ n, p n ∧ ∀ m, p m → n ≤ m := by
  rintro ⟨n, hn⟩
  induction n using Nat.strongRecOn with
  | _ n ih =>
    by_cases h : ∃ m, m < n ∧ p m
    · obtain ⟨m, hm, hp⟩ := h
      exact ih m hm hp
    · refine ⟨n, hn, fun m hm => ?_⟩
      rcases Nat.lt_or_ge m n with hlt | hge
      · exact absurd ⟨m, hlt, hm⟩ h
      · exact hge
open Classical in
/-- A scope in which the run jumps back to one label; a number of rounds goes down at each jump. -/
theorem wp_scope_rounds {P : Program} {a : Act} {w : World} {Q : Exit → Act → World → Prop} {c rest : Code} (l : Nat) (J : Nat → Act → World → Prop) (hf : findLabel c l = some rest)
    (first : c.wp P (Exit.jump l (fun a w => ∃ n, J n a w) Q) a w)
    (pass : ∀ n a w, J n a w → rest.wp P (Exit.jump l (fun a' w' => ∃ m, m < n ∧ J m a' w') Q) a w) : (Code.scope c).wp P Q a w := by
  refine wp_scope_jumps l (fun a w => ∃ n, J n a w) (fun a w => if h : ∃ n, J n a w then (least_of h).choose else 0) hf first (fun a w hJ => ?_)
  have hl := (least_of hJ).choose_spec
  refine wp_mono (pass _ a w hl.1) (fun e a' w' h => ?_)
  cases e with
  | goto l' =>
    obtain ⟨h1, m, h2, h3⟩ := h
    have hJ' : ∃ n, J n a' w' := ⟨m, h3⟩
    refine ⟨h1, hJ', ?_⟩
    have hl' := (least_of hJ').choose_spec
    show (if h : ∃ n, J n a' w' then (least_of h).choose else 0) < (if h : ∃ n, J n a w then (least_of h).choose else 0)
    rw [dif_pos hJ', dif_pos hJ]
    exact Nat.lt_of_le_of_lt (hl'.2 m h3) h2
  | normal => exact h
  | exit id => exact h
  | ret => exact h
  | panic ch => exact h
  | outgrown => exact h

/-- the frame behind the label: six numbers, of which p holds -/
inductive GlobSt (a0 a1 : ByteArray) (w0 : World) (p : Int → Int → Int → Int → Int → Int → Prop) : Act → World → Prop
  | mk' (g k near nearAt far farAt : Int) (u2 u3 u11 u12 u13 u14 u15 u16 u17 u18 u19 u20 u21 u22 u23 u24 u25 u26 u27 u28 u29 u30 u31 u32 u33 u34 u35 u36 u37 u38 u39 u40 u41 u42 u43 u44 u45 u46 u47 u48 u49 u50 u51 u52 u53 u54 u55 u56 u57 u58 u59 u60 u61 u62 u63 u64 u65 u66 u67 u68 u69 u70 u71 u72 u73 u74 u75 u76 u77 u78 u79 u80 u81 u82 u83 u84 u85 u86 u87 u88 u89 u90 u91 u92 u93 u94 u95 u96 u97 u98 u99 u100 u101 u102 u103 u104 u105 u106 u107 u108 u109 u110 u111 u112 u113 u114 u115 u116 u117 u118 u119 u120 u121 : Value) {w : World} (H : p g k near nearAt far farAt) (hd : Drawn0 w0 w) : GlobSt a0 a1 w0 p { tmps := #[.string a0, .string a1, u2, u3, .bool false, .int .i64 g, .int .i64 k, .int .i64 near, .int .i64 nearAt, .int .i64 far, .int .i64 farAt, u11, u12, u13, u14, u15, u16, u17, u18, u19, u20, u21, u22, u23, u24, u25, u26, u27, u28, u29, u30, u31, u32, u33, u34, u35, u36, u37, u38, u39, u40, u41, u42, u43, u44, u45, u46, u47, u48, u49, u50, u51, u52, u53, u54, u55, u56, u57, u58, u59, u60, u61, u62, u63, u64, u65, u66, u67, u68, u69, u70, u71, u72, u73, u74, u75, u76, u77, u78, u79, u80, u81, u82, u83, u84, u85, u86, u87, u88, u89, u90, u91, u92, u93, u94, u95, u96, u97, u98, u99, u100, u101, u102, u103, u104, u105, u106, u107, u108, u109, u110, u111, u112, u113, u114, u115, u116, u117, u118, u119, u120, u121], defers := [] } w
set_option maxRecDepth 100000 in
theorem GlobSt.elim {a0 a1 : ByteArray} {w0 : World} {p : Int → Int → Int → Int → Int → Int → Prop} {a : Act} {w : World} {C : Act → Prop} (h : GlobSt a0 a1 w0 p a w)
    (hc : ∀ (g k near nearAt far farAt : Int) (u2 u3 u11 u12 u13 u14 u15 u16 u17 u18 u19 u20 u21 u22 u23 u24 u25 u26 u27 u28 u29 u30 u31 u32 u33 u34 u35 u36 u37 u38 u39 u40 u41 u42 u43 u44 u45 u46 u47 u48 u49 u50 u51 u52 u53 u54 u55 u56 u57 u58 u59 u60 u61 u62 u63 u64 u65 u66 u67 u68 u69 u70 u71 u72 u73 u74 u75 u76 u77 u78 u79 u80 u81 u82 u83 u84 u85 u86 u87 u88 u89 u90 u91 u92 u93 u94 u95 u96 u97 u98 u99 u100 u101 u102 u103 u104 u105 u106 u107 u108 u109 u110 u111 u112 u113 u114 u115 u116 u117 u118 u119 u120 u121 : Value), p g k near nearAt far farAt → Drawn0 w0 w → C { tmps := #[.string a0, .string a1, u2, u3, .bool false, .int .i64 g, .int .i64 k, .int .i64 near, .int .i64 nearAt, .int .i64 far, .int .i64 farAt, u11, u12, u13, u14, u15, u16, u17, u18, u19, u20, u21, u22, u23, u24, u25, u26, u27, u28, u29, u30, u31, u32, u33, u34, u35, u36, u37, u38, u39, u40, u41, u42, u43, u44, u45, u46, u47, u48, u49, u50, u51, u52, u53, u54, u55, u56, u57, u58, u59, u60, u61, u62, u63, u64, u65, u66, u67, u68, u69, u70, u71, u72, u73, u74, u75, u76, u77, u78, u79, u80, u81, u82, u83, u84, u85, u86, u87, u88, u89, u90, u91, u92, u93, u94, u95, u96, u97, u98, u99, u100, u101, u102, u103, u104, u105, u106, u107, u108, u109, u110, u111, u112, u113, u114, u115, u116, u117, u118, u119, u120, u121], defers := [] }) : C a := by
  cases h with
  | mk' g k near nearAt far farAt u2 u3 u11 u12 u13 u14 u15 u16 u17 u18 u19 u20 u21 u22 u23 u24 u25 u26 u27 u28 u29 u30 u31 u32 u33 u34 u35 u36 u37 u38 u39 u40 u41 u42 u43 u44 u45 u46 u47 u48 u49 u50 u51 u52 u53 u54 u55 u56 u57 u58 u59 u60 u61 u62 u63 u64 u65 u66 u67 u68 u69 u70 u71 u72 u73 u74 u75 u76 u77 u78 u79 u80 u81 u82 u83 u84 u85 u86 u87 u88 u89 u90 u91 u92 u93 u94 u95 u96 u97 u98 u99 u100 u101 u102 u103 u104 u105 u106 u107 u108 u109 u110 u111 u112 u113 u114 u115 u116 u117 u118 u119 u120 u121 H hd => exact hc _ _ _ _ _ _ u2 u3 u11 u12 u13 u14 u15 u16 u17 u18 u19 u20 u21 u22 u23 u24 u25 u26 u27 u28 u29 u30 u31 u32 u33 u34 u35 u36 u37 u38 u39 u40 u41 u42 u43 u44 u45 u46 u47 u48 u49 u50 u51 u52 u53 u54 u55 u56 u57 u58 u59 u60 u61 u62 u63 u64 u65 u66 u67 u68 u69 u70 u71 u72 u73 u74 u75 u76 u77 u78 u79 u80 u81 u82 u83 u84 u85 u86 u87 u88 u89 u90 u91 u92 u93 u94 u95 u96 u97 u98 u99 u100 u101 u102 u103 u104 u105 u106 u107 u108 u109 u110 u111 u112 u113 u114 u115 u116 u117 u118 u119 u120 u121 H hd
def pAll (n : Nat) (a0 a1 : ByteArray) (r : Bool) (g k near nearAt far farAt : Int) : Prop := path_Glob.l0 n a0 a1 g k near nearAt far farAt = some r
def p2 (m : Nat) (a0 a1 : ByteArray) (r : Bool) (g k near nearAt far farAt : Int) : Prop := bounds a0 a1 g k near nearAt far farAt ∧ (if k = (a1.size : Int) ∧ g = (a0.size : Int) then some true else (if k < (a1.size : Int) ∧ g < (a0.size : Int) ∧ okI (bt a0 g) (bt a1 k) then path_Glob.l0 m a0 a1 (g + 1) (k + 1) near nearAt far farAt else (if 0 ≤ near ∧ nearAt < (a1.size : Int) ∧ bt a1 nearAt ≠ 47 then path_Glob.l0 m a0 a1 near (nearAt + 1) near (nearAt + 1) far farAt else (if 0 ≤ far ∧ farAt < (a1.size : Int) then path_Glob.l0 m a0 a1 far (farAt + 1) (-1) nearAt far (farAt + 1) else some false)))) = some r
def p3 (m : Nat) (a0 a1 : ByteArray) (r : Bool) (g k near nearAt far farAt : Int) : Prop := bounds a0 a1 g k near nearAt far farAt ∧ (if k < (a1.size : Int) ∧ g < (a0.size : Int) ∧ okI (bt a0 g) (bt a1 k) then path_Glob.l0 m a0 a1 (g + 1) (k + 1) near nearAt far farAt else (if 0 ≤ near ∧ nearAt < (a1.size : Int) ∧ bt a1 nearAt ≠ 47 then path_Glob.l0 m a0 a1 near (nearAt + 1) near (nearAt + 1) far farAt else (if 0 ≤ far ∧ farAt < (a1.size : Int) then path_Glob.l0 m a0 a1 far (farAt + 1) (-1) nearAt far (farAt + 1) else some false))) = some r
def p4 (m : Nat) (a0 a1 : ByteArray) (r : Bool) (g k near nearAt far farAt : Int) : Prop := bounds a0 a1 g k near nearAt far farAt ∧ (if 0 ≤ near ∧ nearAt < (a1.size : Int) ∧ bt a1 nearAt ≠ 47 then path_Glob.l0 m a0 a1 near (nearAt + 1) near (nearAt + 1) far farAt else (if 0 ≤ far ∧ farAt < (a1.size : Int) then path_Glob.l0 m a0 a1 far (farAt + 1) (-1) nearAt far (farAt + 1) else some false)) = some r
def p5 (m : Nat) (a0 a1 : ByteArray) (r : Bool) (g k near nearAt far farAt : Int) : Prop := bounds a0 a1 g k near nearAt far farAt ∧ (if 0 ≤ far ∧ farAt < (a1.size : Int) then path_Glob.l0 m a0 a1 far (farAt + 1) (-1) nearAt far (farAt + 1) else some false) = some r
theorem wp_seq_cut {P : Program} {x y : Code} {Q : Exit → Act → World → Prop} {a : Act} {w : World} (C : Act → World → Prop) (hx : x.wp P (Exit.then C Q) a w) (hy : ∀ a w, C a w → y.wp P Q a w) : (Code.seq x y).wp P Q a w := by
  refine wp_seq (wp_mono hx fun e a' w' h => ?_)
  cases e with
  | normal => exact hy _ _ h
  | goto l' => exact h
  | exit id => exact h
  | ret => exact h
  | panic ch => exact h
  | outgrown => exact h
/-- The same, where the way to the label goes on behind it. -/
theorem wp_scope_rounds2 {P : Program} {a : Act} {w : World} {Q : Exit → Act → World → Prop} {c rest : Code} (l : Nat) (J : Nat → Act → World → Prop) (hf : findLabel c l = some (Code.skip.seq rest))
    (pass : ∀ n a w, J n a w → rest.wp P (Exit.jump l (fun a' w' => ∃ m, m < n ∧ J m a' w') Q) a w)
    (first : (∀ n a w, J n a w → rest.wp P (Exit.jump l (fun a w => ∃ n, J n a w) Q) a w) → c.wp P (Exit.jump l (fun a w => ∃ n, J n a w) Q) a w) : (Code.scope c).wp P Q a w := by
  refine wp_scope_rounds l J hf (first fun n a w h => wp_mono (pass n a w h) fun e a' w' h' => ?_) (fun n a w h => wp_seq (wp_skip (pass n a w h)))
  cases e with
  | goto l' => exact ⟨h'.1, h'.2.choose, h'.2.choose_spec.2⟩
  | normal => exact h'
  | exit id => exact h'
  | ret => exact h'
  | panic ch => exact h'
  | outgrown => exact h'

set_option maxHeartbeats 8000000 in
set_option maxRecDepth 1000000 in
theorem path_Glob.calls (k : Nat) (a0 : ByteArray) (a1 : ByteArray) (r : Bool) (w : World) (h : path_Glob.f k a0 a1 = some r) :
    Calls Try.prog 26 #[.string a0, .string a1] w fun e w' => e = .returned (.bool r) ∧ Drawn0 w w' := by
  have HF := Aside0.mk (show path_Glob.l0 k a0 a1 0 0 (-1) 0 (-1) 0 = some r from h)
  clear h
  go_enter Try.func26, Try.ntmps26
  go_wp2
  refine wp_scope_rounds2 0 (fun n => GlobSt a0 a1 w (pAll n a0 a1 r)) rfl ?pass ?first
  case first =>
    intro hp
    have HP := Aside0.mk hp
    clear hp
    go_wp2
    go_step3
    rename_i K hK
    exact hK _ _ (HP.out k _ w (GlobSt.mk' 0 0 (-1) 0 (-1) 0 _ _ _ _ _ _ _ _ _ _ _ _ _ _ _ _ _ _ _ _ _ _ _ _ _ _ _ _ _ _ _ _ _ _ _ _ _ _ _ _ _ _ _ _ _ _ _ _ _ _ _ _ _ _ _ _ _ _ _ _ _ _ _ _ _ _ _ _ _ _ _ _ _ _ _ _ _ _ _ _ _ _ _ _ _ _ _ _ _ _ _ _ _ _ _ _ _ _ _ _ _ _ _ _ _ _ _ _ _ _ _ _ _ HF.out (Drawn0.refl _)))
  case pass =>
    clear HF
    intro n a w' hJ
    cases n with
    | zero =>
      exfalso
      refine GlobSt.elim (C := fun _ => False) hJ ?_
      intro g k near nearAt far farAt u2 u3 u11 u12 u13 u14 u15 u16 u17 u18 u19 u20 u21 u22 u23 u24 u25 u26 u27 u28 u29 u30 u31 u32 u33 u34 u35 u36 u37 u38 u39 u40 u41 u42 u43 u44 u45 u46 u47 u48 u49 u50 u51 u52 u53 u54 u55 u56 u57 u58 u59 u60 u61 u62 u63 u64 u65 u66 u67 u68 u69 u70 u71 u72 u73 u74 u75 u76 u77 u78 u79 u80 u81 u82 u83 u84 u85 u86 u87 u88 u89 u90 u91 u92 u93 u94 u95 u96 u97 u98 u99 u100 u101 u102 u103 u104 u105 u106 u107 u108 u109 u110 u111 u112 u113 u114 u115 u116 u117 u118 u119 u120 u121 H0 hd
      exact absurd H0 (by simp [pAll, path_Glob.l0])
    | succ m =>
    refine wp_seq_cut (GlobSt a0 a1 w (p2 m a0 a1 r)) ?_ ?_
    ·
      refine GlobSt.elim (C := fun a => Code.wp _ _ _ a w') hJ ?_
      clear hJ a
      intro g k near nearAt far farAt u2 u3 u11 u12 u13 u14 u15 u16 u17 u18 u19 u20 u21 u22 u23 u24 u25 u26 u27 u28 u29 u30 u31 u32 u33 u34 u35 u36 u37 u38 u39 u40 u41 u42 u43 u44 u45 u46 u47 u48 u49 u50 u51 u52 u53 u54 u55 u56 u57 u58 u59 u60 u61 u62 u63 u64 u65 u66 u67 u68 u69 u70 u71 u72 u73 u74 u75 u76 u77 u78 u79 u80 u81 u82 u83 u84 u85 u86 u87 u88 u89 u90 u91 u92 u93 u94 u95 u96 u97 u98 u99 u100 u101 u102 u103 u104 u105 u106 u107 u108 u109 u110 u111 u112 u113 u114 u115 u116 u117 u118 u119 u120 u121 H hd
      obtain ⟨nd, rfl⟩ := hd
      unfold pAll at H
      simp only [path_Glob.l0] at H
      by_cases hb : bounds a0 a1 g k near nearAt far farAt
      case neg => rw [if_neg hb] at H; exact absurd H (by simp)
      rw [if_pos hb] at H
      have HB := Aside0.mk hb
      unfold bounds at hb
      obtain ⟨b1, b2, b3, b4, b5, b6, b7, b8, b9, b10, b11, b12, b13, b14⟩ := hb
      by_cases c1 : g < (a0.size : Int)
      · have c1b : decide (g < (a0.size : Int)) = true := decide_eq_true c1
        have hx := bt_at a0 g
        by_cases c2 : bt a0 g = 42
        · rw [if_pos ⟨c1, c2⟩] at H
          have c2b : (bt a0 g == 42) = true := beq_iff_eq.mpr c2
          have c2n : (bt a0 g != 42) = false := bne_eq_false_iff_eq.mpr c2
          clear c2
          by_cases c3 : g + 1 < (a0.size : Int)
          · have c3b : decide (g + 1 < (a0.size : Int)) = true := decide_eq_true c3
            have hz := bt_at a0 (g + 1)
            by_cases c4 : bt a0 (g + 1) = 42
            · rw [if_pos ⟨c3, c4⟩] at H
              have c4b : (bt a0 (g + 1) == 42) = true := beq_iff_eq.mpr c4
              have c4n : (bt a0 (g + 1) != 42) = false := bne_eq_false_iff_eq.mpr c4
              clear c4
              have H' := Aside0.mk H
              clear H
              go_wp2
              go_step3
              exact ⟨rfl, m, Nat.lt_succ_self _, GlobSt.mk' (g + 2) k (-1) nearAt (g + 2) k _ _ _ _ _ _ _ _ _ _ _ _ _ _ _ _ _ _ _ _ _ _ _ _ _ _ _ _ _ _ _ _ _ _ _ _ _ _ _ _ _ _ _ _ _ _ _ _ _ _ _ _ _ _ _ _ _ _ _ _ _ _ _ _ _ _ _ _ _ _ _ _ _ _ _ _ _ _ _ _ _ _ _ _ _ _ _ _ _ _ _ _ _ _ _ _ _ _ _ _ _ _ _ _ _ _ _ _ _ _ _ _ _ H'.out (by repeat (first | exact Drawn0.refl _ | apply Drawn0.step))⟩
            · rw [if_neg (fun e => c4 e.2)] at H
              have c4b : (bt a0 (g + 1) == 42) = false := beq_eq_false_iff_ne.mpr c4
              have c4n : (bt a0 (g + 1) != 42) = true := bne_iff_ne.mpr c4
              clear c4
              have H' := Aside0.mk H
              clear H
              go_wp2
              go_step3
              exact ⟨rfl, m, Nat.lt_succ_self _, GlobSt.mk' (g + 1) k (g + 1) k far farAt _ _ _ _ _ _ _ _ _ _ _ _ _ _ _ _ _ _ _ _ _ _ _ _ _ _ _ _ _ _ _ _ _ _ _ _ _ _ _ _ _ _ _ _ _ _ _ _ _ _ _ _ _ _ _ _ _ _ _ _ _ _ _ _ _ _ _ _ _ _ _ _ _ _ _ _ _ _ _ _ _ _ _ _ _ _ _ _ _ _ _ _ _ _ _ _ _ _ _ _ _ _ _ _ _ _ _ _ _ _ _ _ _ H'.out (by repeat (first | exact Drawn0.refl _ | apply Drawn0.step))⟩
          · have c3b : decide (g + 1 < (a0.size : Int)) = false := decide_eq_false c3
            rw [if_neg (fun e => c3 e.1)] at H
            have H' := Aside0.mk H
            clear H
            go_wp2
            go_step3
            exact ⟨rfl, m, Nat.lt_succ_self _, GlobSt.mk' (g + 1) k (g + 1) k far farAt _ _ _ _ _ _ _ _ _ _ _ _ _ _ _ _ _ _ _ _ _ _ _ _ _ _ _ _ _ _ _ _ _ _ _ _ _ _ _ _ _ _ _ _ _ _ _ _ _ _ _ _ _ _ _ _ _ _ _ _ _ _ _ _ _ _ _ _ _ _ _ _ _ _ _ _ _ _ _ _ _ _ _ _ _ _ _ _ _ _ _ _ _ _ _ _ _ _ _ _ _ _ _ _ _ _ _ _ _ _ _ _ _ H'.out (by repeat (first | exact Drawn0.refl _ | apply Drawn0.step))⟩
        · rw [if_neg (fun e => c2 e.2)] at H
          have c2b : (bt a0 g == 42) = false := beq_eq_false_iff_ne.mpr c2
          have c2n : (bt a0 g != 42) = true := bne_iff_ne.mpr c2
          clear c2
          have H' := Aside0.mk H
          clear H
          go_wp2
          exact GlobSt.mk' g k near nearAt far farAt _ _ _ _ _ _ _ _ _ _ _ _ _ _ _ _ _ _ _ _ _ _ _ _ _ _ _ _ _ _ _ _ _ _ _ _ _ _ _ _ _ _ _ _ _ _ _ _ _ _ _ _ _ _ _ _ _ _ _ _ _ _ _ _ _ _ _ _ _ _ _ _ _ _ _ _ _ _ _ _ _ _ _ _ _ _ _ _ _ _ _ _ _ _ _ _ _ _ _ _ _ _ _ _ _ _ _ _ _ _ _ _ _ ⟨HB.out, H'.out⟩ (by repeat (first | exact Drawn0.refl _ | apply Drawn0.step))
      · have c1b : decide (g < (a0.size : Int)) = false := decide_eq_false c1
        rw [if_neg (fun e => c1 e.1)] at H
        have H' := Aside0.mk H
        clear H
        go_wp2
        exact GlobSt.mk' g k near nearAt far farAt _ _ _ _ _ _ _ _ _ _ _ _ _ _ _ _ _ _ _ _ _ _ _ _ _ _ _ _ _ _ _ _ _ _ _ _ _ _ _ _ _ _ _ _ _ _ _ _ _ _ _ _ _ _ _ _ _ _ _ _ _ _ _ _ _ _ _ _ _ _ _ _ _ _ _ _ _ _ _ _ _ _ _ _ _ _ _ _ _ _ _ _ _ _ _ _ _ _ _ _ _ _ _ _ _ _ _ _ _ _ _ _ _ ⟨HB.out, H'.out⟩ (by repeat (first | exact Drawn0.refl _ | apply Drawn0.step))
    intro a w' hJ
    refine wp_seq_cut (GlobSt a0 a1 w (p3 m a0 a1 r)) ?_ ?_
    ·
      refine GlobSt.elim (C := fun a => Code.wp _ _ _ a w') hJ ?_
      clear hJ a
      intro g k near nearAt far farAt u2 u3 u11 u12 u13 u14 u15 u16 u17 u18 u19 u20 u21 u22 u23 u24 u25 u26 u27 u28 u29 u30 u31 u32 u33 u34 u35 u36 u37 u38 u39 u40 u41 u42 u43 u44 u45 u46 u47 u48 u49 u50 u51 u52 u53 u54 u55 u56 u57 u58 u59 u60 u61 u62 u63 u64 u65 u66 u67 u68 u69 u70 u71 u72 u73 u74 u75 u76 u77 u78 u79 u80 u81 u82 u83 u84 u85 u86 u87 u88 u89 u90 u91 u92 u93 u94 u95 u96 u97 u98 u99 u100 u101 u102 u103 u104 u105 u106 u107 u108 u109 u110 u111 u112 u113 u114 u115 u116 u117 u118 u119 u120 u121 H0 hd
      obtain ⟨nd, rfl⟩ := hd
      obtain ⟨hb, H⟩ := H0
      have HB := Aside0.mk hb
      unfold bounds at hb
      obtain ⟨b1, b2, b3, b4, b5, b6, b7, b8, b9, b10, b11, b12, b13, b14⟩ := hb
      by_cases c1 : k = (a1.size : Int)
      · have c1b : (k == (a1.size : Int)) = true := beq_iff_eq.mpr c1
        by_cases c2 : g = (a0.size : Int)
        · have c2b : (g == (a0.size : Int)) = true := beq_iff_eq.mpr c2
          rw [if_pos ⟨c1, c2⟩] at H
          clear c1 c2
          obtain rfl : r = true := (Option.some.inj H).symm
          clear H
          go_wp2
          try simp only [Exit.then, Exit.jump]
          go_ret
          exact ⟨rfl, (by repeat (first | exact Drawn0.refl _ | apply Drawn0.step))⟩
        · have c2b : (g == (a0.size : Int)) = false := beq_eq_false_iff_ne.mpr c2
          rw [if_neg (fun e => c2 e.2)] at H
          clear c1 c2
          have H' := Aside0.mk H
          clear H
          go_wp2
          exact GlobSt.mk' g k near nearAt far farAt _ _ _ _ _ _ _ _ _ _ _ _ _ _ _ _ _ _ _ _ _ _ _ _ _ _ _ _ _ _ _ _ _ _ _ _ _ _ _ _ _ _ _ _ _ _ _ _ _ _ _ _ _ _ _ _ _ _ _ _ _ _ _ _ _ _ _ _ _ _ _ _ _ _ _ _ _ _ _ _ _ _ _ _ _ _ _ _ _ _ _ _ _ _ _ _ _ _ _ _ _ _ _ _ _ _ _ _ _ _ _ _ _ ⟨HB.out, H'.out⟩ (by repeat (first | exact Drawn0.refl _ | apply Drawn0.step))
      · have c1b : (k == (a1.size : Int)) = false := beq_eq_false_iff_ne.mpr c1
        rw [if_neg (fun e => c1 e.1)] at H
        clear c1
        have H' := Aside0.mk H
        clear H
        go_wp2
        exact GlobSt.mk' g k near nearAt far farAt _ _ _ _ _ _ _ _ _ _ _ _ _ _ _ _ _ _ _ _ _ _ _ _ _ _ _ _ _ _ _ _ _ _ _ _ _ _ _ _ _ _ _ _ _ _ _ _ _ _ _ _ _ _ _ _ _ _ _ _ _ _ _ _ _ _ _ _ _ _ _ _ _ _ _ _ _ _ _ _ _ _ _ _ _ _ _ _ _ _ _ _ _ _ _ _ _ _ _ _ _ _ _ _ _ _ _ _ _ _ _ _ _ ⟨HB.out, H'.out⟩ (by repeat (first | exact Drawn0.refl _ | apply Drawn0.step))
    intro a w' hJ
    refine wp_seq_cut (GlobSt a0 a1 w (p4 m a0 a1 r)) ?_ ?_
    ·
      refine GlobSt.elim (C := fun a => Code.wp _ _ _ a w') hJ ?_
      clear hJ a
      intro g k near nearAt far farAt u2 u3 u11 u12 u13 u14 u15 u16 u17 u18 u19 u20 u21 u22 u23 u24 u25 u26 u27 u28 u29 u30 u31 u32 u33 u34 u35 u36 u37 u38 u39 u40 u41 u42 u43 u44 u45 u46 u47 u48 u49 u50 u51 u52 u53 u54 u55 u56 u57 u58 u59 u60 u61 u62 u63 u64 u65 u66 u67 u68 u69 u70 u71 u72 u73 u74 u75 u76 u77 u78 u79 u80 u81 u82 u83 u84 u85 u86 u87 u88 u89 u90 u91 u92 u93 u94 u95 u96 u97 u98 u99 u100 u101 u102 u103 u104 u105 u106 u107 u108 u109 u110 u111 u112 u113 u114 u115 u116 u117 u118 u119 u120 u121 H0 hd
      obtain ⟨nd, rfl⟩ := hd
      obtain ⟨hb, H⟩ := H0
      have HB := Aside0.mk hb
      unfold bounds at hb
      obtain ⟨b1, b2, b3, b4, b5, b6, b7, b8, b9, b10, b11, b12, b13, b14⟩ := hb
      by_cases c5 : k < (a1.size : Int)
      · have c5b : decide (k < (a1.size : Int)) = true := decide_eq_true c5
        have hw := bt_at a1 k
        by_cases c1 : g < (a0.size : Int)
        · have c1b : decide (g < (a0.size : Int)) = true := decide_eq_true c1
          have hx := bt_at a0 g
          by_cases c7 : bt a0 g = 63
          · have c7b : (bt a0 g == 63) = true := beq_iff_eq.mpr c7
            have c7n : (bt a0 g != 63) = false := bne_eq_false_iff_eq.mpr c7
            by_cases c8 : bt a1 k = 47
            · have c8b : (bt a1 k == 47) = true := beq_iff_eq.mpr c8
              have c8n : (bt a1 k != 47) = false := bne_eq_false_iff_eq.mpr c8
              have c9b : (bt a0 g == bt a1 k) = false := beq_eq_false_iff_ne.mpr (by rw [c7, c8]; decide)
              rw [if_neg (fun e => by rcases e.2.2 with h | h; exact h.2 c7; exact h.2 c8)] at H
              clear c7 c8
              have H' := Aside0.mk H
              clear H
              go_wp2
              go_quiet (fail)
              go_wp2
              exact GlobSt.mk' g k near nearAt far farAt _ _ _ _ _ _ _ _ _ _ _ _ _ _ _ _ _ _ _ _ _ _ _ _ _ _ _ _ _ _ _ _ _ _ _ _ _ _ _ _ _ _ _ _ _ _ _ _ _ _ _ _ _ _ _ _ _ _ _ _ _ _ _ _ _ _ _ _ _ _ _ _ _ _ _ _ _ _ _ _ _ _ _ _ _ _ _ _ _ _ _ _ _ _ _ _ _ _ _ _ _ _ _ _ _ _ _ _ _ _ _ _ _ ⟨HB.out, H'.out⟩ (by repeat (first | exact Drawn0.refl _ | apply Drawn0.step))
            · have c8b : (bt a1 k == 47) = false := beq_eq_false_iff_ne.mpr c8
              have c8n : (bt a1 k != 47) = true := bne_iff_ne.mpr c8
              rw [if_pos ⟨c5, c1, .inr ⟨c7, c8⟩⟩] at H
              by_cases c9 : bt a0 g = bt a1 k
              · have c9b : (bt a0 g == bt a1 k) = true := beq_iff_eq.mpr c9
                have c9n : (bt a0 g != bt a1 k) = false := bne_eq_false_iff_eq.mpr c9
                clear c7 c8 c9
                have H' := Aside0.mk H
                clear H
                go_wp2
                go_quiet (fail)
                go_wp2
                go_step3
                exact ⟨rfl, m, Nat.lt_succ_self _, GlobSt.mk' (g + 1) (k + 1) near nearAt far farAt _ _ _ _ _ _ _ _ _ _ _ _ _ _ _ _ _ _ _ _ _ _ _ _ _ _ _ _ _ _ _ _ _ _ _ _ _ _ _ _ _ _ _ _ _ _ _ _ _ _ _ _ _ _ _ _ _ _ _ _ _ _ _ _ _ _ _ _ _ _ _ _ _ _ _ _ _ _ _ _ _ _ _ _ _ _ _ _ _ _ _ _ _ _ _ _ _ _ _ _ _ _ _ _ _ _ _ _ _ _ _ _ _ H'.out (by repeat (first | exact Drawn0.refl _ | apply Drawn0.step))⟩
              · have c9b : (bt a0 g == bt a1 k) = false := beq_eq_false_iff_ne.mpr c9
                have c9n : (bt a0 g != bt a1 k) = true := bne_iff_ne.mpr c9
                clear c7 c8 c9
                have H' := Aside0.mk H
                clear H
                go_wp2
                go_quiet (fail)
                go_wp2
                go_step3
                exact ⟨rfl, m, Nat.lt_succ_self _, GlobSt.mk' (g + 1) (k + 1) near nearAt far farAt _ _ _ _ _ _ _ _ _ _ _ _ _ _ _ _ _ _ _ _ _ _ _ _ _ _ _ _ _ _ _ _ _ _ _ _ _ _ _ _ _ _ _ _ _ _ _ _ _ _ _ _ _ _ _ _ _ _ _ _ _ _ _ _ _ _ _ _ _ _ _ _ _ _ _ _ _ _ _ _ _ _ _ _ _ _ _ _ _ _ _ _ _ _ _ _ _ _ _ _ _ _ _ _ _ _ _ _ _ _ _ _ _ H'.out (by repeat (first | exact Drawn0.refl _ | apply Drawn0.step))⟩
          · have c7b : (bt a0 g == 63) = false := beq_eq_false_iff_ne.mpr c7
            have c7n : (bt a0 g != 63) = true := bne_iff_ne.mpr c7
            by_cases c9 : bt a0 g = bt a1 k
            · rw [if_pos ⟨c5, c1, .inl ⟨c9, c7⟩⟩] at H
              have c9b : (bt a0 g == bt a1 k) = true := beq_iff_eq.mpr c9
              have c9n : (bt a0 g != bt a1 k) = false := bne_eq_false_iff_eq.mpr c9
              clear c7 c9
              have H' := Aside0.mk H
              clear H
              go_wp2
              go_quiet (fail)
              go_wp2
              go_step3
              exact ⟨rfl, m, Nat.lt_succ_self _, GlobSt.mk' (g + 1) (k + 1) near nearAt far farAt _ _ _ _ _ _ _ _ _ _ _ _ _ _ _ _ _ _ _ _ _ _ _ _ _ _ _ _ _ _ _ _ _ _ _ _ _ _ _ _ _ _ _ _ _ _ _ _ _ _ _ _ _ _ _ _ _ _ _ _ _ _ _ _ _ _ _ _ _ _ _ _ _ _ _ _ _ _ _ _ _ _ _ _ _ _ _ _ _ _ _ _ _ _ _ _ _ _ _ _ _ _ _ _ _ _ _ _ _ _ _ _ _ H'.out (by repeat (first | exact Drawn0.refl _ | apply Drawn0.step))⟩
            · rw [if_neg (fun e => by rcases e.2.2 with h | h; exact c9 h.1; exact c7 h.1)] at H
              have c9b : (bt a0 g == bt a1 k) = false := beq_eq_false_iff_ne.mpr c9
              have c9n : (bt a0 g != bt a1 k) = true := bne_iff_ne.mpr c9
              clear c7 c9
              have H' := Aside0.mk H
              clear H
              go_wp2
              go_quiet (fail)
              go_wp2
              exact GlobSt.mk' g k near nearAt far farAt _ _ _ _ _ _ _ _ _ _ _ _ _ _ _ _ _ _ _ _ _ _ _ _ _ _ _ _ _ _ _ _ _ _ _ _ _ _ _ _ _ _ _ _ _ _ _ _ _ _ _ _ _ _ _ _ _ _ _ _ _ _ _ _ _ _ _ _ _ _ _ _ _ _ _ _ _ _ _ _ _ _ _ _ _ _ _ _ _ _ _ _ _ _ _ _ _ _ _ _ _ _ _ _ _ _ _ _ _ _ _ _ _ ⟨HB.out, H'.out⟩ (by repeat (first | exact Drawn0.refl _ | apply Drawn0.step))
        · have c1b : decide (g < (a0.size : Int)) = false := decide_eq_false c1
          rw [if_neg (fun e => c1 e.2.1)] at H
          have H' := Aside0.mk H
          clear H
          go_wp2
          go_quiet (fail)
          go_wp2
          exact GlobSt.mk' g k near nearAt far farAt _ _ _ _ _ _ _ _ _ _ _ _ _ _ _ _ _ _ _ _ _ _ _ _ _ _ _ _ _ _ _ _ _ _ _ _ _ _ _ _ _ _ _ _ _ _ _ _ _ _ _ _ _ _ _ _ _ _ _ _ _ _ _ _ _ _ _ _ _ _ _ _ _ _ _ _ _ _ _ _ _ _ _ _ _ _ _ _ _ _ _ _ _ _ _ _ _ _ _ _ _ _ _ _ _ _ _ _ _ _ _ _ _ ⟨HB.out, H'.out⟩ (by repeat (first | exact Drawn0.refl _ | apply Drawn0.step))
      · have c5b : decide (k < (a1.size : Int)) = false := decide_eq_false c5
        rw [if_neg (fun e => c5 e.1)] at H
        have H' := Aside0.mk H
        clear H
        go_wp2
        go_quiet (fail)
        go_wp2
        exact GlobSt.mk' g k near nearAt far farAt _ _ _ _ _ _ _ _ _ _ _ _ _ _ _ _ _ _ _ _ _ _ _ _ _ _ _ _ _ _ _ _ _ _ _ _ _ _ _ _ _ _ _ _ _ _ _ _ _ _ _ _ _ _ _ _ _ _ _ _ _ _ _ _ _ _ _ _ _ _ _ _ _ _ _ _ _ _ _ _ _ _ _ _ _ _ _ _ _ _ _ _ _ _ _ _ _ _ _ _ _ _ _ _ _ _ _ _ _ _ _ _ _ ⟨HB.out, H'.out⟩ (by repeat (first | exact Drawn0.refl _ | apply Drawn0.step))
    intro a w' hJ
    refine wp_seq_cut (GlobSt a0 a1 w (p5 m a0 a1 r)) ?_ ?_
    ·
      refine GlobSt.elim (C := fun a => Code.wp _ _ _ a w') hJ ?_
      clear hJ a
      intro g k near nearAt far farAt u2 u3 u11 u12 u13 u14 u15 u16 u17 u18 u19 u20 u21 u22 u23 u24 u25 u26 u27 u28 u29 u30 u31 u32 u33 u34 u35 u36 u37 u38 u39 u40 u41 u42 u43 u44 u45 u46 u47 u48 u49 u50 u51 u52 u53 u54 u55 u56 u57 u58 u59 u60 u61 u62 u63 u64 u65 u66 u67 u68 u69 u70 u71 u72 u73 u74 u75 u76 u77 u78 u79 u80 u81 u82 u83 u84 u85 u86 u87 u88 u89 u90 u91 u92 u93 u94 u95 u96 u97 u98 u99 u100 u101 u102 u103 u104 u105 u106 u107 u108 u109 u110 u111 u112 u113 u114 u115 u116 u117 u118 u119 u120 u121 H0 hd
      obtain ⟨nd, rfl⟩ := hd
      obtain ⟨hb, H⟩ := H0
      have HB := Aside0.mk hb
      unfold bounds at hb
      obtain ⟨b1, b2, b3, b4, b5, b6, b7, b8, b9, b10, b11, b12, b13, b14⟩ := hb
      by_cases d1 : 0 ≤ near
      · have d1b : decide (0 ≤ near) = true := decide_eq_true d1
        by_cases d2 : nearAt < (a1.size : Int)
        · have d2b : decide (nearAt < (a1.size : Int)) = true := decide_eq_true d2
          have hy := bt_at a1 nearAt
          by_cases d3 : bt a1 nearAt = 47
          · rw [if_neg (fun e => e.2.2 d3)] at H
            have d3b : (bt a1 nearAt == 47) = true := beq_iff_eq.mpr d3
            have d3n : (bt a1 nearAt != 47) = false := bne_eq_false_iff_eq.mpr d3
            clear d3
            have H' := Aside0.mk H
            clear H
            go_wp2
            exact GlobSt.mk' g k near nearAt far farAt _ _ _ _ _ _ _ _ _ _ _ _ _ _ _ _ _ _ _ _ _ _ _ _ _ _ _ _ _ _ _ _ _ _ _ _ _ _ _ _ _ _ _ _ _ _ _ _ _ _ _ _ _ _ _ _ _ _ _ _ _ _ _ _ _ _ _ _ _ _ _ _ _ _ _ _ _ _ _ _ _ _ _ _ _ _ _ _ _ _ _ _ _ _ _ _ _ _ _ _ _ _ _ _ _ _ _ _ _ _ _ _ _ ⟨HB.out, H'.out⟩ (by repeat (first | exact Drawn0.refl _ | apply Drawn0.step))
          · rw [if_pos ⟨d1, d2, d3⟩] at H
            have d3b : (bt a1 nearAt == 47) = false := beq_eq_false_iff_ne.mpr d3
            have d3n : (bt a1 nearAt != 47) = true := bne_iff_ne.mpr d3
            clear d3
            have H' := Aside0.mk H
            clear H
            go_wp2
            go_step3
            exact ⟨rfl, m, Nat.lt_succ_self _, GlobSt.mk' near (nearAt + 1) near (nearAt + 1) far farAt _ _ _ _ _ _ _ _ _ _ _ _ _ _ _ _ _ _ _ _ _ _ _ _ _ _ _ _ _ _ _ _ _ _ _ _ _ _ _ _ _ _ _ _ _ _ _ _ _ _ _ _ _ _ _ _ _ _ _ _ _ _ _ _ _ _ _ _ _ _ _ _ _ _ _ _ _ _ _ _ _ _ _ _ _ _ _ _ _ _ _ _ _ _ _ _ _ _ _ _ _ _ _ _ _ _ _ _ _ _ _ _ _ H'.out (by repeat (first | exact Drawn0.refl _ | apply Drawn0.step))⟩
        · have d2b : decide (nearAt < (a1.size : Int)) = false := decide_eq_false d2
          rw [if_neg (fun e => d2 e.2.1)] at H
          have H' := Aside0.mk H
          clear H
          go_wp2
          exact GlobSt.mk' g k near nearAt far farAt _ _ _ _ _ _ _ _ _ _ _ _ _ _ _ _ _ _ _ _ _ _ _ _ _ _ _ _ _ _ _ _ _ _ _ _ _ _ _ _ _ _ _ _ _ _ _ _ _ _ _ _ _ _ _ _ _ _ _ _ _ _ _ _ _ _ _ _ _ _ _ _ _ _ _ _ _ _ _ _ _ _ _ _ _ _ _ _ _ _ _ _ _ _ _ _ _ _ _ _ _ _ _ _ _ _ _ _ _ _ _ _ _ ⟨HB.out, H'.out⟩ (by repeat (first | exact Drawn0.refl _ | apply Drawn0.step))
      · have d1b : decide (0 ≤ near) = false := decide_eq_false d1
        rw [if_neg (fun e => d1 e.1)] at H
        have H' := Aside0.mk H
        clear H
        go_wp2
        exact GlobSt.mk' g k near nearAt far farAt _ _ _ _ _ _ _ _ _ _ _ _ _ _ _ _ _ _ _ _ _ _ _ _ _ _ _ _ _ _ _ _ _ _ _ _ _ _ _ _ _ _ _ _ _ _ _ _ _ _ _ _ _ _ _ _ _ _ _ _ _ _ _ _ _ _ _ _ _ _ _ _ _ _ _ _ _ _ _ _ _ _ _ _ _ _ _ _ _ _ _ _ _ _ _ _ _ _ _ _ _ _ _ _ _ _ _ _ _ _ _ _ _ ⟨HB.out, H'.out⟩ (by repeat (first | exact Drawn0.refl _ | apply Drawn0.step))
    intro a w' hJ
    refine GlobSt.elim (C := fun a => Code.wp _ _ _ a w') hJ ?_
    clear hJ a
    intro g k near nearAt far farAt u2 u3 u11 u12 u13 u14 u15 u16 u17 u18 u19 u20 u21 u22 u23 u24 u25 u26 u27 u28 u29 u30 u31 u32 u33 u34 u35 u36 u37 u38 u39 u40 u41 u42 u43 u44 u45 u46 u47 u48 u49 u50 u51 u52 u53 u54 u55 u56 u57 u58 u59 u60 u61 u62 u63 u64 u65 u66 u67 u68 u69 u70 u71 u72 u73 u74 u75 u76 u77 u78 u79 u80 u81 u82 u83 u84 u85 u86 u87 u88 u89 u90 u91 u92 u93 u94 u95 u96 u97 u98 u99 u100 u101 u102 u103 u104 u105 u106 u107 u108 u109 u110 u111 u112 u113 u114 u115 u116 u117 u118 u119 u120 u121 H0 hd
    obtain ⟨nd, rfl⟩ := hd
    obtain ⟨hb, H⟩ := H0
    have HB := Aside0.mk hb
    unfold bounds at hb
    obtain ⟨b1, b2, b3, b4, b5, b6, b7, b8, b9, b10, b11, b12, b13, b14⟩ := hb
    by_cases e1 : 0 ≤ far
    · have e1b : decide (0 ≤ far) = true := decide_eq_true e1
      by_cases e2 : farAt < (a1.size : Int)
      · have e2b : decide (farAt < (a1.size : Int)) = true := decide_eq_true e2
        rw [if_pos ⟨e1, e2⟩] at H
        have H' := Aside0.mk H
        clear H
        go_wp2
        go_step3
        exact ⟨rfl, m, Nat.lt_succ_self _, GlobSt.mk' far (farAt + 1) (-1) nearAt far (farAt + 1) _ _ _ _ _ _ _ _ _ _ _ _ _ _ _ _ _ _ _ _ _ _ _ _ _ _ _ _ _ _ _ _ _ _ _ _ _ _ _ _ _ _ _ _ _ _ _ _ _ _ _ _ _ _ _ _ _ _ _ _ _ _ _ _ _ _ _ _ _ _ _ _ _ _ _ _ _ _ _ _ _ _ _ _ _ _ _ _ _ _ _ _ _ _ _ _ _ _ _ _ _ _ _ _ _ _ _ _ _ _ _ _ _ H'.out (by repeat (first | exact Drawn0.refl _ | apply Drawn0.step))⟩
      · have e2b : decide (farAt < (a1.size : Int)) = false := decide_eq_false e2
        rw [if_neg (fun e => e2 e.2)] at H
        obtain rfl : r = false := (Option.some.inj H).symm
        clear H
        go_wp2
        try simp only [Exit.then, Exit.jump]
        go_ret
        exact ⟨rfl, (by repeat (first | exact Drawn0.refl _ | apply Drawn0.step))⟩
    · have e1b : decide (0 ≤ far) = false := decide_eq_false e1
      rw [if_neg (fun e => e1 e.1)] at H
      obtain rfl : r = false := (Option.some.inj H).symm
      clear H
      go_wp2
      try simp only [Exit.then, Exit.jump]
      go_ret
      exact ⟨rfl, (by repeat (first | exact Drawn0.refl _ | apply Drawn0.step))⟩
end Go.Proofs.Ytpphdmpnnnimdaa.P
