/- A path is its parent with its base; two paths, one behind the other, are a path, or too long: for every two texts. No condition. -/
import Derived.Test.YtpphdmpnnnimdaaPlPathD
import Derived.Test.YtpphdmpnnnimdaaPxf7
namespace Go.Proofs.Ytpphdmpnnnimdaa.Pure
open Go.RowKit Go.Proofs.Ytpphdmpnnnimdaa.P Go.Proofs.YtpphdmpnnnimdaaW.PrintWords Go.Proofs.YtpphdmpnnnimdaaW.PrintLast Go.Proofs.Ytpphdmpnnnimdaa.Pl
set_option linter.unusedSimpArgs false

theorem joins_j1 (x : ByteArray) (hx : isL (L x) = true) : Ev (fun k => brickyardlaw09_PathJoins.j1 k x) true := by
  have hsz := size_L x
  have h60 := isL_len hx
  have hsegs := isL_segs hx
  refine ev_succ ?_
  simp only [brickyardlaw09_PathJoins.j1]
  refine ev_bind (parent_ev x (by omega)) (ev_ite_pos (by omega) ?_)
  have hs2 : (x ++ (⟨#[47, 46, 46]⟩ : ByteArray)).size ≤ 9000000000 := by rw [size_L, L_append, List.length_append]; show _ + 3 ≤ _; omega
  refine ev_bind (pathnorm_ev _ hs2) ?_
  have hl2 : L (x ++ (⟨#[47, 46, 46]⟩ : ByteArray)) = L x ++ 47 :: [46, 46] := by rw [L_append]; rfl
  have hw : normL (L x ++ 47 :: [46, 46]) = fin (pieces (L x)).dropLast := by
    unfold normL
    rw [pieces_split, show pieces [46, 46] = [[46, 46]] from rfl, walk_segs _ hsegs, List.nil_append, walk_cons, if_neg (by decide), if_pos rfl, if_neg (pieces_ne _)]
    rfl
  rw [hl2, hw]
  by_cases h : (47 : UInt8) ∈ L x
  · obtain ⟨a, b, he, hn⟩ := last_split h
    have hi : isL (a ++ 47 :: b) = true := by rw [← he]; exact hx
    have e2 : upL (L x) = (a, true) := by rw [he]; exact up_some hn hi
    have hl : (L x).length = a.length + 1 + b.length := by rw [he]; simp; omega
    have ha : isL a = true := isL_mk (by omega) (fun p hp => hsegs p (by rw [he, pieces_split]; exact List.mem_append_left _ hp))
    have hf : fin (pieces (L x)).dropLast = (a, 0) := by
      rw [he, pieces_split, pieces_one hn, List.dropLast_concat]
      unfold fin
      rw [if_neg (pieces_ne a), join_pieces, if_neg (by omega)]
    rw [e2, hf]
    refine ev_ite_pos rfl ?_
    have i1 := is_ev (B a)
    rw [L_B, ha] at i1
    refine ev_bind i1 (ev_ite_pos rfl (ev_ite_pos (by rw [size_B]; show a.length + 1 ≤ _; omega) ?_))
    refine ev_bind (base_ev x hx) ?_
    have hb : baseL (L x) = b := by rw [he]; exact base_some hn
    have hsz2 : (B a ++ (⟨#[47]⟩ : ByteArray)).size = a.length + 1 := by rw [size_L, L_append, L_B]; simp [L]
    rw [hb]
    refine ev_ite_pos (by rw [hsz2, size_B]; omega) (ev_ite_pos ?_ (ev_ite_pos rfl (ev_const rfl)))
    show ((B a ++ (⟨#[47]⟩ : ByteArray)) ++ B b).toList = x.toList
    rw [toList_L, toList_L, L_append, L_append, L_B, L_B, he]
    simp [L]
  · have e2 : upL (L x) = ([], false) := by unfold upL; rw [if_neg (by simp [h])]
    have hf : fin (pieces (L x)).dropLast = ([], 2) := by rw [pieces_one h]; rfl
    rw [e2, hf]
    refine ev_ite_neg (by simp) (ev_ite_pos ((toList_L _).trans (L_B _)) (ev_bind (base_ev x hx) ?_))
    rw [base_none h]
    refine ev_ite_pos ?_ (ev_ite_pos ((toList_L _).trans (L_B _)) (ev_const rfl))
    rw [toList_L, toList_L, L_B]
theorem joins_j0 (x y : ByteArray) (hx : isL (L x) = true) (hy : isL (L y) = true) : Ev (fun k => brickyardlaw09_PathJoins.j0 k x y false) true := by
  have hsx := size_L x
  have hsy := size_L y
  have h60 := isL_len hx
  have h61 := isL_len hy
  refine ev_succ ?_
  simp only [brickyardlaw09_PathJoins.j0]
  have hl2 : L (x ++ (⟨#[47]⟩ : ByteArray) ++ y) = L x ++ 47 :: L y := by rw [L_append, L_append]; simp [L]
  have hs1 : (x ++ (⟨#[47]⟩ : ByteArray)).size = (L x).length + 1 := by rw [size_L, L_append]; simp [L]
  have hs2 : (x ++ (⟨#[47]⟩ : ByteArray) ++ y).size = (L x).length + 1 + (L y).length := by rw [size_L, hl2]; simp; omega
  refine ev_ite_neg (by simp) (ev_ite_pos (by omega) (ev_ite_pos (by omega) ?_))
  refine ev_bind (pathnorm_ev _ (by omega)) ?_
  have hsegs : ∀ p ∈ pieces (L x ++ 47 :: L y), segB p = true := by
    intro p hp
    rw [pieces_split] at hp
    rcases List.mem_append.1 hp with hp | hp
    · exact isL_segs hx p hp
    · exact isL_segs hy p hp
  rw [hl2, norm_of_segs hsegs, w64 (x := (x.size : Int) + 1) (by omega) (by omega), w64 (x := (x.size : Int) + 1 + (y.size : Int)) (by omega) (by omega)]
  have hlen : (L x ++ 47 :: L y).length = (L x).length + 1 + (L y).length := by simp; omega
  by_cases h : (L x ++ 47 :: L y).length > 60
  · rw [if_pos h]
    exact ev_ite_pos (by omega) (ev_ite_pos ((toList_L _).trans (L_B _)) (ev_ite_pos rfl (joins_j1 x hx)))
  · rw [if_neg h]
    have hi : isL (L x ++ 47 :: L y) = true := isL_mk (by omega) hsegs
    have i1 := is_ev (B (L x ++ 47 :: L y))
    rw [L_B, hi] at i1
    have b1 := base_ev (B (L x ++ 47 :: L y)) (by rw [L_B]; exact hi)
    rw [L_B, base_app] at b1
    refine ev_ite_neg (by omega) (ev_ite_pos ?_ (ev_ite_pos rfl (ev_bind i1 (ev_ite_pos rfl (ev_bind b1 (ev_bind (base_ev y hy) (ev_ite_pos rfl (joins_j1 x hx))))))))
    rw [toList_L, toList_L, hl2]
    exact L_B _
theorem PathJoins : brickyardlaw09_PathJoins.Pure := by
  intro a0 a1 h0 h1
  refine Ev.rounds (r := true) ?_
  unfold brickyardlaw09_PathJoins.f
  refine ev_bind (ev_const (show brickyardlaw09_works.f = some true from rfl)) (ev_ite_pos rfl ?_)
  refine ev_bind (is_ev a0) ?_
  have hend : Ev (fun k => brickyardlaw09_PathJoins.j0 k a0 a1 true) true := by
    refine ev_succ ?_
    simp only [brickyardlaw09_PathJoins.j0]
    exact ev_ite_pos trivial (ev_const rfl)
  cases hx : isL (L a0) with
  | false => exact ev_ite_neg (by simp) hend
  | true =>
    refine ev_ite_pos rfl (ev_bind (is_ev a1) ?_)
    cases hy : isL (L a1) with
    | false => exact hend
    | true => exact joins_j0 a0 a1 hx hy

end Go.Proofs.Ytpphdmpnnnimdaa.Pure
