/-
  The plain law of PieceHides: the printed function answers true. No program in sight but the printed functions.
-/
import Derived.Test.YtjnlppmodagegaaDoorYHidesWalk
import Derived.Test.YtjnlppmodagegaaDoorYCover
import Derived.Test.YtjnlppmodagegaaDoorYSmallTrue
namespace Go.Proofs.YtjnlppmodagegaaDoor.PPd
open Go Go.RowKit Go.Proofs.YtjnlppmodagegaaDoorW.PrintWords Go.Proofs.YtjnlppmodagegaaDoorW.PrintMore Span

abbrev Sp := S43
theorem foldl_len (ys acc : List (Int × Int)) : (ys.foldl addS acc).length ≤ acc.length + ys.length := by
  induction ys generalizing acc with
  | nil => simp
  | cons y l ih =>
    have h1 := ih (addS acc y)
    have h2 := addS_length acc y
    rw [List.foldl_cons, List.length_cons]; omega
theorem hideS_len (l : List (Int × Int)) (s : Int × Int) : (hideS l s).length ≤ l.length + 1 := by
  have h1 := foldl_len (insertS s l) []
  have h2 := (insertS_perm s l).length_eq
  rw [List.length_append, List.length_singleton] at h2
  unfold hideS
  simp only [List.length_nil] at h1
  omega
theorem pr_mk (l : List (Int × Int)) : (l.map piece_Hide.mk).map piece_Hide.pr = l := by
  rw [List.map_map]
  exact List.map_id l
theorem mk_pr (l : List Sp) : (l.map piece_Hide.pr).map piece_Hide.mk = l := by
  rw [List.map_map]
  exact List.map_id l
theorem hide_ok (l : List Sp) (s : Int × Int) (hr : rightP (l.map piece_Hide.pr)) (hs : valid s) (hl : l.length ≤ 4000) : piece_Hide.f l s.1 s.2 = some ((hideS (l.map piece_Hide.pr) s).map piece_Hide.mk) := by
  have hb : rightB (l.map piece_Hide.pr) (l.map piece_Hide.pr).length = true := (rightB_all _).2 hr
  have e : hideA (l.map piece_Hide.pr) s = hideS (l.map piece_Hide.pr) s := by unfold hideA; rw [if_pos ⟨hb, hs⟩]
  rw [piece_Hide.f, if_pos (by omega)]
  show some ((hideA (l.map piece_Hide.pr) s).map piece_Hide.mk) = _
  rw [e]
theorem rdP_at (l : List Sp) (j : Nat) (h : j < l.length) : rd_T43 l (j : Int) = l[j] := by
  unfold rd_T43; rw [Int.toNat_natCast, List.getD_eq_getElem?_getD, List.getElem?_eq_getElem h, Option.getD_some]
theorem pr_at (l : List Sp) (j : Nat) (h : j < l.length) : (l.map piece_Hide.pr)[j]?.getD (0, 0) = (l[j].f0, l[j].f1) := by
  rw [List.getElem?_map, List.getElem?_eq_getElem h]; rfl
theorem wsuccH (j : Nat) (h : j < 9223372036854775807) : wrap64 ((j : Int) + 1) = ((j + 1 : Nat) : Int) := by rw [wrap64_id _ (by omega)]; omega
theorem same_go (l : List Sp) (hl : l.length ≤ 4000) (d : Nat) : ∀ (j : Nat), j + d = l.length → ∀ k, d + 1 ≤ k → missiveref20_SameSpans.l0 k l l (j : Int) = some true := by
  induction d with
  | zero =>
    intro j hj k hk
    obtain ⟨m, rfl⟩ : ∃ m, k = m + 1 := ⟨k - 1, by omega⟩
    rw [missiveref20_SameSpans.l0, if_neg (by omega)]
  | succ d ih =>
    intro j hj k hk
    obtain ⟨m, rfl⟩ : ∃ m, k = m + 1 := ⟨k - 1, by omega⟩
    rw [missiveref20_SameSpans.l0, if_pos (by omega), if_pos (by omega), if_pos (by omega), if_neg (by simp), wsuccH j (by omega)]
    exact ih (j + 1) (by omega) m (by omega)
theorem same_ok (l : List Sp) (hl : l.length ≤ 4000) (k : Nat) (hk : 4001 ≤ k) : missiveref20_SameSpans.f k l l = some true := by
  rw [missiveref20_SameSpans.f, if_pos rfl]
  exact same_go l hl l.length 0 (by omega) k (by omega)
theorem inB_iff (l : List Sp) (i : Int) : inB l i = true ↔ inP (l.map piece_Hide.pr) i := by
  unfold inB inP has
  rw [List.any_eq_true]
  constructor
  · rintro ⟨x, hx, h⟩
    rw [Bool.and_eq_true, decide_eq_true_eq, decide_eq_true_eq] at h
    exact ⟨piece_Hide.pr x, List.mem_map_of_mem hx, h⟩
  · rintro ⟨y, hy, h⟩
    obtain ⟨x, hx, rfl⟩ := List.mem_map.1 hy
    exact ⟨x, hx, by rw [Bool.and_eq_true, decide_eq_true_eq, decide_eq_true_eq]; exact h⟩
/-- the second loop and what stands behind it -/
theorem hides_end (l x : List Sp) (i s0 s1 t0 t1 : Int) (hl : l.length ≤ 20) (hr : rightP (l.map piece_Hide.pr)) (hs : valid (s0, s1)) (ht : valid (t0, t1)) (hx : x = (hideS (l.map piece_Hide.pr) (s0, s1)).map piece_Hide.mk) (d : Nat) :
    ∀ (j : Nat), j + d = x.length → ∀ k, d + 5000 ≤ k → missivelaw20_PieceHides.l1 k l i true x (j : Int) s0 s1 t0 t1 = some true := by
  obtain ⟨r1, m1⟩ := hideS_right _ (s0, s1) hr hs
  have hxp : x.map piece_Hide.pr = hideS (l.map piece_Hide.pr) (s0, s1) := by rw [hx, pr_mk]
  have hlp : (l.map piece_Hide.pr).length = l.length := List.length_map _
  have hxl : x.length ≤ 21 := by
    have := hideS_len (l.map piece_Hide.pr) (s0, s1)
    rw [hx, List.length_map]; omega
  have hrx : rightP (x.map piece_Hide.pr) := by rw [hxp]; exact r1
  have hbx : rightB (x.map piece_Hide.pr) (x.map piece_Hide.pr).length = true := (rightB_all _).2 hrx
  have hpl : (x.map piece_Hide.pr).length = x.length := List.length_map _
  induction d with
  | zero =>
    intro j hj k hk
    obtain ⟨m, rfl⟩ : ∃ m, k = m + 1 := ⟨k - 1, by omega⟩
    have l1 := hideS_len (l.map piece_Hide.pr) (t0, t1)
    have l2 := hideS_len (x.map piece_Hide.pr) (t0, t1)
    have l3 := hideS_len (x.map piece_Hide.pr) (s0, s1)
    obtain ⟨r2, _⟩ := hideS_right _ (t0, t1) hr ht
    have e1 := hide_ok x (t0, t1) hrx ht (by omega)
    have e2 := hide_ok l (t0, t1) hr ht (by omega)
    have e3 := hide_ok ((hideS (l.map piece_Hide.pr) (t0, t1)).map piece_Hide.mk) (s0, s1) (by rw [pr_mk]; exact r2) hs (by rw [List.length_map]; omega)
    have e4 := hide_ok x (s0, s1) hrx hs (by omega)
    rw [pr_mk, ← hideS_comm _ _ _ hr hs ht, ← hxp] at e3
    have e5 : hideS (x.map piece_Hide.pr) (s0, s1) = x.map piece_Hide.pr := by rw [hxp, hideS_self _ _ hr hs]
    rw [e5, mk_pr] at e4
    have s1' := same_ok ((hideS (x.map piece_Hide.pr) (t0, t1)).map piece_Hide.mk) (by rw [List.length_map]; omega) m (by omega)
    have s2' := same_ok x (by omega) m (by omega)
    have i1 := in_ok x i (by omega) m (by omega)
    have i2 := in_ok l i (by omega) m (by omega)
    have hin : inB x i = (inB l i || (decide (s0 ≤ i) && decide (i < s1))) := by
      rw [Bool.eq_iff_iff, inB_iff, hxp, m1, Bool.or_eq_true, inB_iff, Bool.and_eq_true, decide_eq_true_eq, decide_eq_true_eq]
    rw [missivelaw20_PieceHides.l1, if_neg (by omega), e1, Option.bind_some, e2, Option.bind_some, e3, Option.bind_some, s1', Option.bind_some, if_pos rfl, if_pos rfl, i1, Option.bind_some, i2, Option.bind_some]
    by_cases c1 : inB l i = true
    · have hx1 : inB x i = true := by rw [hin, c1]; rfl
      rw [if_pos c1, hx1, if_pos (show (true == true) = true from rfl), e4, Option.bind_some, s2', Option.bind_some]
    · rw [if_neg c1]
      rw [Bool.eq_false_iff.2 c1, Bool.false_or] at hin
      by_cases c2 : i ≥ s0
      · have hx1 : inB x i = decide (i < s1) := by rw [hin, decide_eq_true (show s0 ≤ i from c2)]; rfl
        rw [if_pos c2, hx1, if_pos (by simp), e4, Option.bind_some, s2', Option.bind_some]
      · have hx1 : inB x i = false := by rw [hin, decide_eq_false (show ¬ s0 ≤ i from c2)]; rfl
        rw [if_neg c2, hx1, if_pos (show (false == false) = true from rfl), e4, Option.bind_some, s2', Option.bind_some]
  | succ d ih =>
    intro j hj k hk
    obtain ⟨m, rfl⟩ : ∃ m, k = m + 1 := ⟨k - 1, by omega⟩
    have hlt : j < x.length := by omega
    have hj1 : rightB (x.map piece_Hide.pr) (j + 1) = true := by
      cases h : rightB (x.map piece_Hide.pr) (j + 1) with
      | true => rfl
      | false => rw [rightB_false _ (j + 1) _ h (by omega)] at hbx; cases hbx
    rw [rightB, Bool.and_eq_true, pr_at x j hlt] at hj1
    have hst := hj1.2
    simp only [Bool.and_eq_true, Bool.not_eq_true', decide_eq_true_eq, Bool.and_eq_false_iff, decide_eq_false_iff_not] at hst
    obtain ⟨⟨g1, g2⟩, g3⟩ := hst
    have next := ih (j + 1) (by omega) m (by omega)
    rw [missivelaw20_PieceHides.l1, if_pos (by omega), if_pos (by omega), rdP_at x j hlt, if_neg (by omega), if_neg (by omega), wsuccH j (by omega)]
    by_cases c0 : (j : Int) > 0
    · have hw : wrap64 ((j : Int) - 1) = ((j - 1 : Nat) : Int) := by rw [wrap64_id _ (by omega)]; omega
      have hlt2 : j - 1 < x.length := by omega
      rw [pr_at x (j - 1) hlt2] at g3
      have g4 : ¬ x[j - 1].f1 ≥ x[j].f0 := by
        rcases g3 with g3 | g3
        · exact absurd g3 (by omega)
        · exact g3
      rw [if_pos c0, hw, if_pos (by omega), if_pos (by omega), rdP_at x (j - 1) hlt2, if_neg g4]
      exact next
    · rw [if_neg c0]
      exact next
/-- the first loop -/
theorem hides_go (l : List Sp) (i s0 s1 t0 t1 : Int) (hl : l.length ≤ 20) (hs : valid (s0, s1)) (ht : valid (t0, t1)) (d : Nat) :
    ∀ (j : Nat), j + d = l.length → rightB (l.map piece_Hide.pr) j = true → ∀ k, d + 6000 ≤ k → missivelaw20_PieceHides.l0 k l i true (j : Int) s0 s1 t0 t1 = some true := by
  have hlp : (l.map piece_Hide.pr).length = l.length := List.length_map _
  induction d with
  | zero =>
    intro j hj hb k hk
    obtain ⟨m, rfl⟩ : ∃ m, k = m + 1 := ⟨k - 1, by omega⟩
    have hr : rightP (l.map piece_Hide.pr) := (rightB_all _).1 (by rw [hlp]; obtain rfl : j = l.length := by omega
                                                                   exact hb)
    have e1 := hide_ok l (s0, s1) hr hs (by omega)
    have h2 := hideS_len (l.map piece_Hide.pr) (s0, s1)
    rw [missivelaw20_PieceHides.l0, if_neg (by omega), e1, Option.bind_some]
    exact hides_end l _ i s0 s1 t0 t1 hl hr hs ht rfl ((hideS (l.map piece_Hide.pr) (s0, s1)).map piece_Hide.mk).length 0 (by omega) m (by rw [List.length_map]; omega)
  | succ d ih =>
    intro j hj hb k hk
    obtain ⟨m, rfl⟩ : ∃ m, k = m + 1 := ⟨k - 1, by omega⟩
    have hlt : j < l.length := by omega
    have step : rightB (l.map piece_Hide.pr) (j + 1) = (decide (0 ≤ l[j].f0) && decide (l[j].f0 < l[j].f1) && !(decide (0 < j) && decide (((l.map piece_Hide.pr)[j - 1]?.getD (0, 0)).2 ≥ l[j].f0))) := by
      rw [rightB, hb, Bool.true_and, pr_at l j hlt]
    rw [missivelaw20_PieceHides.l0, if_pos (by omega), if_pos (by omega), rdP_at l j hlt, wsuccH j (by omega)]
    by_cases c1 : l[j].f0 < 0
    · rw [if_pos c1]
    by_cases c2 : l[j].f0 ≥ l[j].f1
    · rw [if_neg c1, if_pos c2]
    rw [if_neg c1, if_neg c2]
    by_cases c0 : (j : Int) > 0
    · have hw : wrap64 ((j : Int) - 1) = ((j - 1 : Nat) : Int) := by rw [wrap64_id _ (by omega)]; omega
      have hlt2 : j - 1 < l.length := by omega
      rw [pr_at l (j - 1) hlt2] at step
      rw [if_pos c0, hw, if_pos (by omega), if_pos (by omega), rdP_at l (j - 1) hlt2]
      by_cases c3 : l[j - 1].f1 ≥ l[j].f0
      · rw [if_pos c3]
      · rw [if_neg c3]
        refine ih (j + 1) (by omega) ?_ m (by omega)
        rw [step, decide_eq_true (show 0 ≤ l[j].f0 by omega), decide_eq_true (show l[j].f0 < l[j].f1 by omega)]
        show (!(decide (0 < j) && decide (l[j - 1].f1 ≥ l[j].f0))) = true
        rw [decide_eq_false c3]; simp
    · rw [if_neg c0]
      refine ih (j + 1) (by omega) ?_ m (by omega)
      rw [step, decide_eq_true (show 0 ≤ l[j].f0 by omega), decide_eq_true (show l[j].f0 < l[j].f1 by omega), decide_eq_false (show ¬ 0 < j by omega)]
      rfl
theorem hides_true (l : List Sp) (s0 s1 t0 t1 i : Int) : ∃ k, missivelaw20_PieceHides.f k l s0 s1 t0 t1 i = some true := by
  refine ⟨20000, ?_⟩
  have hsm := small_true 20000 (by omega)
  have j1 : missivelaw20_PieceHides.j0 20000 l i true true s0 s1 t0 t1 = some true := by
    rw [missivelaw20_PieceHides.j0, if_pos rfl]
  rw [missivelaw20_PieceHides.f, hsm, Option.bind_some]
  by_cases c1 : (l.length : Int) > 20
  · rw [if_pos c1]; exact j1
  rw [if_neg c1]
  by_cases c2 : s0 < 0
  · rw [if_pos c2]; exact j1
  rw [if_neg c2]
  by_cases c3 : s0 ≥ s1
  · rw [if_pos c3]; exact j1
  rw [if_neg c3]
  by_cases c4 : t0 < 0
  · rw [if_pos c4]; exact j1
  rw [if_neg c4]
  by_cases c5 : t0 ≥ t1
  · rw [decide_eq_true c5]; exact j1
  rw [decide_eq_false c5, missivelaw20_PieceHides.j0, if_neg (by simp)]
  exact hides_go l i s0 s1 t0 t1 (by omega) ⟨by show 0 ≤ s0; omega, by show s0 < s1; omega⟩ ⟨by show 0 ≤ t0; omega, by show t0 < t1; omega⟩ l.length 0 (by omega) rfl 19999 (by omega)
end Go.Proofs.YtjnlppmodagegaaDoor.PPd
