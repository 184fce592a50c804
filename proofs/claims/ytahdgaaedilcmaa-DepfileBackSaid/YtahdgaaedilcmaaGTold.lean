/- Folded: GBld, GTold. -/
import Derived.Test.YtahdgaaedilcmaaShelf
import Derived.Shelf.Strings.BuilderF
import Derived.Lib.OthersKept
import Derived.KernelRfl
import Derived.Test.YtahdgaaedilcmaaPlFold
import Derived.Test.YtahdgaaedilcmaaGWrit
import Derived.Test.YtahdgaaedilcmaaGRow
/- (*strings.Builder).WriteString: the shelf's contract at this dump. -/
namespace Go.Proofs.Ytahdgaaedilcmaa.P
open Go.RowKit
set_option linter.unusedVariables false
def renW : Go.Shelf.Ren := ⟨fun | 240 => 61 | 276 => 67 | 166 => 50 | n => n, fun | 0 => 0 | 4 => 4 | 9 => 9 | 20 => 20 | 70 => 76 | 72 => 78 | 37 => 35 | 5 => 5 | 3 => 3 | 164 => 110 | 127 => 92 | 75 => 80 | 80 => 83 | n => n, fun | n => n⟩
theorem ext72 : Builder.Extra Try.prog renW := {
  sizeBuilder := by kernel_rfl
  liesBuilder := by kernel_rfl
  t5 := Try.underlying5
  a5 := Try.isAgg5
  z5 := Try.sizeOf5
  v5 := Try.zeroValue5
  infoByte := by kernel_rfl
  cellsByte := by kernel_rfl
  sizeByte := by kernel_rfl
  neB5 := by decide }
theorem lay166 : Go.Proofs.Lays.n166 Try.prog renW := by
  constructor <;> first | kernel_rfl | (intro w; kernel_rfl) | skip
  all_goals trace_state
end Go.Proofs.Ytahdgaaedilcmaa.P
/- depfile.told, Print, Fold: the walk. -/
namespace Go.Proofs.Ytahdgaaedilcmaa.P
open Go.RowKit Go.Proofs.YtahdgaaedilcmaaW.PrintWords Go.Proofs.YtahdgaaedilcmaaW.PrintLast Go.Proofs.YtahdgaaedilcmaaW.PrintMore Go.Proofs.Ytahdgaaedilcmaa.Pl
set_option linter.unusedVariables false
set_option linter.unusedSimpArgs false
/-- The call's own builder holds a text. -/
def BMem (w wr : World) (b : ByteArray) : Prop := Below w.heap.size w wr ∧ w.heap.size < wr.heap.size ∧ Lib.IsBuilder 78 5 w.heap.size w.heap.size (Lib.byteCells (L b)) wr
theorem ownsRow_keep {W W1 : World} {base : Nat} {e : TypeId} {v : Value} {n : Nat} {xs : List Value} (h : W.ownsRow base e 1 v n xs) (hb : Below W.heap.size W W1) : W1.ownsRow base e 1 v n xs :=
  h.kept (row := none) ⟨hb.os, hb.tape, hb.output, hb.size, fun k hk _ => hb.block k hk⟩ (by cases h : v.ownBlock <;> simp)
theorem BMem.keep {w wr w1 : World} {b : ByteArray} (h : BMem w wr b) (hb : Below wr.heap.size wr w1) : BMem w w1 b := by
  obtain ⟨h1, h2, h3⟩ := h
  refine ⟨below_then h1 h1.size hb, Nat.lt_of_lt_of_le h2 hb.size, ?_⟩
  rcases h3 with ⟨hB, v, hk, hown, hne⟩ | ⟨hB, v, hk, hown, hne⟩
  · exact .inl ⟨hB, v, (hb.block _ h2).trans hk, ownsRow_keep hown hb, hne⟩
  · exact .inr ⟨hB, v, (hb.block _ h2).trans hk, ownsRow_keep hown hb, hne⟩
theorem BMem.start (w : World) : BMem w (w.alloc (.cells #[.pointer none, .slice none 0 0] 78)) (B []) := by
  refine ⟨(Below.refl _ _).alloc (Nat.le_refl _) _, by simp, ?_⟩
  rw [L_B]
  exact Lib.fresh_isBuilder 78 5 w
theorem wstr_calls {w wr : World} {b s : ByteArray} (h : BMem w wr b) (hl : b.size + s.size ≤ 140737488355328) :
    Calls Try.prog 50 #[.pointer (some ⟨w.heap.size, 0, none⟩), .string s] wr fun e w' => e = .returned (.tuple #[.int .i64 s.size, .nilIface]) ∧ BMem w w' (b ++ s) := by
  have hc := Any.Builder_WriteString lay166 ext72 w.heap.size w.heap.size (Lib.byteCells (L b)) s wr h.2.2 (by rw [Lib.byteCells_length, ← size_L]; exact hl) (Nat.le_of_lt h.2.1)
  refine hc.mono ?_
  rintro e w' ⟨rfl, hb, hw⟩
  refine ⟨rfl, h.1.trans hw, Nat.lt_of_lt_of_le h.2.1 hw.size, .inr ?_⟩
  have : Lib.byteCells (L (b ++ s)) = Lib.byteCells (L b) ++ Lib.strCells s := by
    rw [L_append, Lib.strCells_eq]
    unfold Lib.byteCells
    rw [List.map_append]
    rfl
  rw [this]
  exact hb
theorem bstr_calls {w wr : World} {b : ByteArray} (h : BMem w wr b) :
    Calls Try.prog 51 #[.pointer (some ⟨w.heap.size, 0, none⟩)] wr fun e w' => e = .returned (.string b) ∧ Below w.heap.size w w' := by
  refine (Try.Builder_String_any w.heap.size w.heap.size (L b) wr h.2.2 (Nat.le_of_lt h.2.1)).mono ?_
  rintro e w' ⟨rfl, hw⟩
  have : (⟨(L b).toArray⟩ : ByteArray) = b := B_L b
  rw [this]
  exact ⟨rfl, h.1.trans hw⟩
theorem may_calls (s : ByteArray) (hs : s.size ≤ 33000) (w : World) : Calls Try.prog 48 #[.string s] w fun e w' => e = .returned (.bool (mayB s)) ∧ Drawn0 w w' := by
  obtain ⟨k, hk⟩ := ev_some (may_ev s (by omega))
  exact depfile_may.calls k s _ w hk
theorem writ_calls (s : ByteArray) (hs : s.size ≤ 33000) (w : World) : Calls Try.prog 49 #[.string s] w fun e w' => e = .returned (.string (escT s)) ∧ Below w.heap.size w w' := by
  have := written_calls s w (by omega)
  rw [escS_T] at this
  exact this
set_option maxHeartbeats 4000000 in
set_option maxRecDepth 1000000 in
theorem told_calls (short : Bool) (width : Int) (A0 : Option Addr) (c0 : Nat) (l0 : List S32) (w : World) (hr0 : Kd.C k32 w A0 l0.length l0) (hc0 : l0.length ≤ c0) (hT : Tiny l0) :
    Calls Try.prog 38 #[.bool short, .int .i64 width, .slice A0 l0.length c0] w fun e w' => e = .returned (.tuple #[.string (toldT short width l0).1, .int .i64 (toldT short width l0).2]) ∧ Below w.heap.size w w' := by
  rw [← fin_told]
  obtain ⟨R, hR⟩ : ∃ R, rulesT short width l0 (B []) = R := ⟨_, rfl⟩
  rw [hR]
  have HT := Aside0.mk hT
  have HC := Aside0.mk hr0
  have HR := Aside0.mk hR
  have hlen := hT.1
  clear hT hr0 hR
  go_enter Try.func38, Try.ntmps38
  go_wp2
  have hM0 := BMem.start w
  have hR0 : rulesT short width (l0.drop 0) (B []) = R := HR.out
  go_loopg [17] (l0.length + 1) (fun n iv wr => ∃ (i : Nat) (b : ByteArray), iv = .int .i64 (i : Int) ∧ Aside0 (i + n = l0.length + 1) ∧ Aside0 (BMem w wr b) ∧ Aside0 (rulesT short width (l0.drop i) b = R) ∧ Aside0 (b.size ≤ i * 2200000000))
  case atStart => exact ⟨0, B [], rfl, ⟨by omega⟩, ⟨hM0⟩, ⟨hR0⟩, ⟨by rw [size_B]; simp⟩⟩
  case round =>
    obtain ⟨i, b, rfl, ⟨hn⟩, HM, HI, HZ⟩ := hrel
    obtain ⟨gko, hgko⟩ : ∃ g, g = gk := ⟨_, rfl⟩
    clear hM0 hR0 HR
    by_cases c1 : i < l0.length
    case neg =>
      have c1b : decide ((i : Int) < (l0.length : Int)) = false := decide_eq_false (by omega)
      have hq := HI.out
      rw [List.drop_of_length_le (by omega)] at hq
      have hq : R = some b := hq.symm
      subst hq
      go_wp2_with fail
      refine (bstr_calls HM.out).mono ?_
      rintro e w' ⟨rfl, hw⟩
      go_wp2_with fail
      go_ret2
      exact ⟨rfl, hw⟩
    have c1b : decide ((i : Int) < (l0.length : Int)) = true := decide_eq_true (by omega)
    obtain ⟨adr, A1, c1', rfl, hx0, hx1, hl1, hC1⟩ := at_T32 HC.out (i : Int) (Int.natCast_nonneg _) (by omega)
    rw [rd32 c1] at hx0 hx1 hl1 hC1
    rw [Int.toNat_natCast] at hx0 hx1
    obtain ⟨h0, h1, h2⟩ := HT.out.2 _ (List.getElem_mem c1)
    have hI := HI.out
    rw [List.drop_eq_getElem_cons c1, rulesT_cons] at hI
    obtain ⟨r, hr⟩ : ∃ r, l0[i] = r := ⟨_, rfl⟩
    rw [hr] at hx0 hx1 hl1 hC1 h0 h1 h2 hI
    have hB := HM.out.1
    have hy0 : wr.cell? (adr.add (i * 2)) = some (.string r.f0) := (hB.cell (World.block_lt_of_cell? _ _ hx0)).trans hx0
    have hy1 : wr.cell? ⟨(adr.add (i * 2)).block, (adr.add (i * 2)).off + 1, none⟩ = some (.slice A1 r.f1.length c1') := (hB.cell (World.block_lt_of_cell? _ _ hx1)).trans hx1
    have HC1 := Aside0.mk hC1
    have H2 := Aside0.mk h2
    have HI2 := Aside0.mk hI
    have HL1 := Aside0.mk hl1
    clear hx0 hx1 hl1 hC1 h2 hI hr hB HI
    go_wp2_with fail
    refine (may_calls r.f0 h0 _).mono ?_
    rintro e w2 ⟨rfl, ⟨nd, rfl⟩⟩
    have hb2 := pw_below_drewN ((Below.refl wr.heap.size wr).alloc (Nat.le_refl _) (.cells #[.string r.f0, .slice A1 r.f1.length c1'] 32)) nd
    obtain ⟨W2, hW2⟩ : ∃ W2, W2 = (wr.alloc (.cells #[.string r.f0, .slice A1 r.f1.length c1'] 32)).drewN nd := ⟨_, rfl⟩
    have hz0 : W2.cell? ⟨wr.heap.size, 0, none⟩ = some (.string r.f0) := by rw [hW2]; exact blk_cell (blk_new wr _) 0
    have hz1 : W2.cell? ⟨wr.heap.size, 1, none⟩ = some (.slice A1 r.f1.length c1') := by rw [hW2]; exact blk_cell (blk_new wr _) 1
    rw [← hW2] at hb2 ⊢
    have HM2 := Aside0.mk (HM.out.keep hb2)
    clear hW2 hb2 hy0 hy1
    cases hm : mayB r.f0 with
    | false =>
      have hq := HI2.out
      rw [if_neg (by rw [hm]; decide)] at hq
      have hB2 := HM2.out.1
      subst hq
      go_wp2_with fail
      go_ret2
      exact ⟨rfl, hB2⟩
    | true =>
      have hI2 := HI2.out
      rw [if_pos hm] at hI2
      have HI3 := Aside0.mk hI2
      clear hI2 HI2
      go_wp2_with fail
      refine (writ_calls r.f0 h0 _).mono ?_
      rintro e w3 ⟨rfl, hb3⟩
      have HM3 := Aside0.mk (HM2.out.keep hb3)
      have hz1 := (hb3.cell (p := ⟨wr.heap.size, 1, none⟩) (World.block_lt_of_cell? _ _ hz1)).trans hz1
      have hw := escT_len r.f0
      obtain ⟨t, ht⟩ : ∃ t, escT r.f0 = t := ⟨_, rfl⟩
      rw [ht] at hw HI3 ⊢
      have hI0 : after short width (l0.drop (i + 1)) (depsT short width (r.f1.drop 0) b (t ++ ⟨#[58]⟩)) = R := HI3.out
      have hZ0 : b.size + (t ++ (⟨#[58]⟩ : ByteArray)).size ≤ i * 2200000000 + 66001 + 0 * 66005 := by
        have := HZ.out
        rw [ByteArray.size_append, show (⟨#[58]⟩ : ByteArray).size = 1 from rfl]
        omega
      have HJ := Aside0.mk (And.intro hI0 hZ0)
      clear hb3 hz0 HM2 HM HI3 ht hI0 hZ0
      go_wp2_with fail
      go_loopg [11, 32] (r.f1.length + 1) (fun n v11 jv wr2 => ∃ (j : Nat) (line b : ByteArray), jv = .int .i64 (j : Int) ∧ v11 = .string line ∧ Aside0 (j + n = r.f1.length + 1) ∧ Aside0 (BMem w wr2 b) ∧ Aside0 (after short width (l0.drop (i + 1)) (depsT short width (r.f1.drop j) b line) = R ∧ b.size + line.size ≤ i * 2200000000 + 66001 + j * 66005))
      case atStart => exact ⟨0, _, b, rfl, rfl, ⟨by omega⟩, HM3, HJ⟩
      case round =>
        obtain ⟨j, line, b2, rfl, rfl, ⟨hn2⟩, HM, HJ⟩ := hrel
        clear HM3
        by_cases c2 : j < r.f1.length
        case neg =>
          have c2b : decide ((j : Int) < (r.f1.length : Int)) = false := decide_eq_false (by omega)
          have hq := HJ.out.1
          rw [List.drop_of_length_le (show r.f1.length ≤ j by omega)] at hq
          have hq : rulesT short width (l0.drop (i + 1)) (b2 ++ (line ++ ⟨#[10]⟩)) = R := hq
          have HQ := Aside0.mk hq
          have hz := HJ.out.2
          have hs : (line ++ (⟨#[10]⟩ : ByteArray)).size = line.size + 1 := by rw [ByteArray.size_append]; rfl
          have hsz : b2.size + (line ++ (⟨#[10]⟩ : ByteArray)).size ≤ (i + 1) * 2200000000 := by omega
          have HS := Aside0.mk hsz
          have hwr := wstr_calls (s := line ++ (⟨#[10]⟩ : ByteArray)) HM.out (by omega)
          have hll : line.size ≤ 100000000000000 := by omega
          clear hz hs hsz hq HJ
          go_wp2_with fail
          refine hwr.mono ?_
          rintro e w4 ⟨rfl, hM4⟩
          clear hwr
          go_wp2_with fail
          go_roundg (gko - 1)
          case measure => omega
          case rel => exact ⟨i + 1, _, by first | rfl | (rw [w64_ (by omega) (by omega)]; rfl) | simp, ⟨by omega⟩, ⟨hM4⟩, HQ, ⟨by rw [ByteArray.size_append]; exact HS.out⟩⟩
        have c2b : decide ((j : Int) < (r.f1.length : Int)) = true := decide_eq_true (by omega)
        obtain ⟨adQ, rfl, hcell⟩ := Kd.at_string (Kd.C_below HC1.out HM.out.1) (j : Int) (Int.natCast_nonneg _) (by omega)
        rw [Int.toNat_natCast, rdB c2] at hcell
        have hd := H2.out _ (List.getElem_mem c2)
        have hJ := HJ.out
        rw [List.drop_eq_getElem_cons c2, depsT] at hJ
        obtain ⟨d, hde⟩ : ∃ d, r.f1[j] = d := ⟨_, rfl⟩
        rw [hde] at hcell hd hJ
        have HJ2 := Aside0.mk hJ
        clear hde hJ HJ
        go_wp2_with fail
        refine (may_calls d hd _).mono ?_
        rintro e w4 ⟨rfl, ⟨nd4, rfl⟩⟩
        have HM4 := Aside0.mk (HM.out.keep (pw_below_drewN (Below.refl wr.heap.size wr) nd4))
        obtain ⟨W4, hW4⟩ : ∃ W4, W4 = wr.drewN nd4 := ⟨_, rfl⟩
        rw [← hW4] at HM4 ⊢
        clear hW4 HM hcell
        cases hmd : mayB d with
        | false =>
          have hq := HJ2.out.1
          rw [if_neg (by rw [hmd]; decide)] at hq
          have hB2 := HM4.out.1
          have hq : none = R := hq
          subst hq
          go_wp2_with fail
          go_ret2
          exact ⟨rfl, hB2⟩
        | true =>
          have hJ2 := HJ2.out
          rw [if_pos hmd] at hJ2
          have HJ3 := Aside0.mk hJ2
          clear hJ2 HJ2
          go_wp2_with fail
          refine (writ_calls d hd _).mono ?_
          rintro e w5 ⟨rfl, hb5⟩
          have HM5 := Aside0.mk (HM4.out.keep hb5)
          have hw := escT_len d
          obtain ⟨u, hu⟩ : ∃ u, escT d = u := ⟨_, rfl⟩
          rw [hu] at hw HJ3 ⊢
          have hwl : u.size ≤ 66000 := by omega
          have hz := HJ3.out.2
          have hll : line.size ≤ 100000000000000 := by omega
          have hs0 : (line ++ (⟨#[32, 92, 10]⟩ : ByteArray)).size = line.size + 3 := by rw [ByteArray.size_append]; rfl
          have hs1 : ((⟨#[32, 32]⟩ : ByteArray) ++ u).size = u.size + 2 := by rw [ByteArray.size_append, show (⟨#[32, 32]⟩ : ByteArray).size = 2 from rfl]; omega
          have hs2 : (line ++ ((⟨#[32]⟩ : ByteArray) ++ u)).size = line.size + (u.size + 1) := by rw [ByteArray.size_append, ByteArray.size_append, show (⟨#[32]⟩ : ByteArray).size = 1 from rfl]; omega
          have hs3 : ((⟨#[32]⟩ : ByteArray) ++ u).size ≤ 66001 := by rw [ByteArray.size_append, show (⟨#[32]⟩ : ByteArray).size = 1 from rfl]; omega
          have hwr := wstr_calls (s := line ++ (⟨#[32, 92, 10]⟩ : ByteArray)) HM5.out (by omega)
          have HZ1 := Aside0.mk (show (b2 ++ (line ++ (⟨#[32, 92, 10]⟩ : ByteArray))).size + ((⟨#[32, 32]⟩ : ByteArray) ++ u).size ≤ i * 2200000000 + 66001 + (j + 1) * 66005 from by rw [ByteArray.size_append, hs0, hs1]; omega)
          have HZ2 := Aside0.mk (show b2.size + (line ++ ((⟨#[32]⟩ : ByteArray) ++ u)).size ≤ i * 2200000000 + 66001 + (j + 1) * 66005 from by rw [hs2]; omega)
          clear hb5 HM4 hu hw hz hs0 hs1 hs2
          by_cases hsh : short = true ∧ width < (line.size : Int) + 1 + (u.size : Int)
          · have hq := HJ3.out.1
            rw [if_pos hsh] at hq
            have HQ := Aside0.mk hq
            obtain ⟨rfl, hcw⟩ := hsh
            have hcb : decide (width < (line.size : Int) + 1 + (u.size : Int)) = true := decide_eq_true hcw
            clear hq HJ3 hcw
            go_wp2_with fail
            refine hwr.mono ?_
            rintro e w6 ⟨rfl, hM6⟩
            clear hwr
            go_wp2_with fail
            go_roundg (gk - 1)
            case measure => omega
            case rel => exact ⟨j + 1, _, _, by first | rfl | (rw [w64_ (by omega) (by omega)]; rfl) | simp, rfl, ⟨by omega⟩, ⟨hM6⟩, ⟨⟨HQ.out, HZ1.out⟩⟩⟩
          · have hq := HJ3.out.1
            rw [if_neg hsh] at hq
            have HQ := Aside0.mk hq
            clear hq HJ3 hwr
            cases short with
            | false =>
              clear hsh
              go_wp2_with fail
              go_roundg (gk - 1)
              case measure => omega
              case rel => exact ⟨j + 1, _, _, by first | rfl | (rw [w64_ (by omega) (by omega)]; rfl) | simp, rfl, ⟨by omega⟩, HM5, ⟨⟨HQ.out, HZ2.out⟩⟩⟩
            | true =>
              have hcb : decide (width < (line.size : Int) + 1 + (u.size : Int)) = false := decide_eq_false (fun h => hsh ⟨rfl, h⟩)
              clear hsh
              go_wp2_with fail
              go_roundg (gk - 1)
              case measure => omega
              case rel => exact ⟨j + 1, _, _, by first | rfl | (rw [w64_ (by omega) (by omega)]; rfl) | simp, rfl, ⟨by omega⟩, HM5, ⟨⟨HQ.out, HZ2.out⟩⟩⟩
end Go.Proofs.Ytahdgaaedilcmaa.P
