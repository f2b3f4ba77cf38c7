/-
  piece.right: the neighbours' test.
-/
import Derived.Test.YtjnlppmodagegaaDoorVHide
namespace Go.Proofs.YtjnlppmodagegaaDoor.HideW
open Go Go.RowKit Words Go.Sort Go.Lib Go.Proofs.YtjnlppmodagegaaDoorW.PrintWords SortSpan Span

def stepB (x p : Int × Int) (k : Nat) : Bool := decide (0 ≤ x.1) && decide (x.1 < x.2) && !(decide (0 < k) && decide (p.2 ≥ x.1))
theorem rightB_succ (l : List (Int × Int)) (k : Nat) (h : rightB l k = true) : rightB l (k + 1) = stepB (l[k]?.getD (0, 0)) (l[k - 1]?.getD (0, 0)) k := by
  rw [rightB, h, Bool.true_and]; rfl

set_option maxHeartbeats 4000000 in
theorem right_any (n c : Nat) (A : Option Addr) (xs : List (Int × Int)) (w : World) (hr : RdS w A n xs) (hl : n + 1 ≤ 4398046511104) :
    Calls Tryd.prog 69 #[.slice A n c] w fun e w' => e = .returned (.bool (rightB xs n)) ∧ Below w.heap.size w w' := by
  have HR := Lib.hid hr
  clear hr
  go_enter Tryd.func69, Tryd.ntmps69
  go_wp2
  go_loopw [7] (fun i wr => ∃ k : Nat, k ≤ n ∧ i = .int .i64 (k : Int) ∧ Hid (rightB xs k = true) ∧ Below w.heap.size w wr) (fun i _ => n - (intOf i).toNat)
  case atStart => exact ⟨0, Nat.zero_le _, rfl, Lib.hid rfl, Below.refl _ _⟩
  case round =>
    obtain ⟨k, hk, rfl, hb, hw⟩ := hrel
    have hz := hw.size
    by_cases hlt : k < n
    · obtain ⟨ad, rfl, h0, h1⟩ := (HR.out.keep hw).at_ k hlt
      have HB := Lib.hid (rightB_succ xs k hb.out)
      have x3 : (k : Int) < n := by omega
      have hp : 0 < k → wr.cell? ⟨(ad.add ((k - 1) * 2)).block, (ad.add ((k - 1) * 2)).off + 1, none⟩ = some (.int .i64 (xs[k - 1]?.getD (0, 0)).2) := fun h => by
        obtain ⟨ad', e, _, h3⟩ := (HR.out.keep hw).at_ (k - 1) (by omega)
        injection e with e
        subst e
        exact h3
      generalize xs[k]?.getD (0, 0) = x at *
      generalize xs[k - 1]?.getD (0, 0) = p at *
      have out : ∀ w1, Below w.heap.size w w1 → stepB x p k = false → Ending.returned (.bool false) = .returned (.bool (rightB xs n)) ∧ Below w.heap.size w w1 := fun w1 hw1 h => ⟨by rw [rightB_false xs (k + 1) n (by rw [HB.out, h]) (by omega)], hw1⟩
      have go : stepB x p k = true → rightB xs (k + 1) = true := fun h => by rw [HB.out, h]
      have HO := Lib.hid out
      have HG := Lib.hid go
      clear out go HB
      go_wp2
      by_cases c1 : x.1 < 0
      · have d1 : decide (x.1 < 0) = true := decide_eq_true c1
        go_quiet (fail)
        go_wp2
        go_ret
        refine HO.out _ ?_ (by unfold stepB; simp; omega)
        exact pw_below_drewN (hw.alloc hz _) _
      have d1 : decide (x.1 < 0) = false := decide_eq_false c1
      by_cases c2 : x.1 ≥ x.2
      · have d2 : decide (x.1 ≥ x.2) = true := decide_eq_true c2
        go_quiet (fail)
        go_wp2
        go_ret
        refine HO.out _ ?_ (by unfold stepB; simp; omega)
        exact pw_below_drewN (hw.alloc hz _) _
      have d2 : decide (x.1 ≥ x.2) = false := decide_eq_false c2
      rcases Nat.eq_zero_or_pos k with c3 | c3
      · have d3 : decide ((k : Int) > 0) = false := decide_eq_false (by omega)
        go_quiet (fail)
        go_wp2
        go_roundw
        case rel => exact ⟨k + 1, by omega, by go_num, Lib.hid (HG.out (by unfold stepB; simp; omega)), pw_below_drewN (hw.alloc hz _) _⟩
        case measure => simp [intOf]; omega
      · have hp := hp c3
        obtain ⟨m, rfl⟩ : ∃ m, k = m + 1 := ⟨k - 1, by omega⟩
        have d3 : decide (((m + 1 : Nat) : Int) > 0) = true := decide_eq_true (by omega)
        have x1 : (1 : Int) ≤ ((m + 1 : Nat) : Int) := by omega
        have x2 : m + 1 ≤ 4398046511104 := by omega
        have x4 : IntKind.i64.wrap (m : Int) = m := by simp [IntKind.wrap, IntKind.bits, IntKind.signed]; omega
        have x5 : (m : Int) < n := by omega
        rw [show m + 1 - 1 = m by omega] at hp
        have hp2 := (World.cell?_alloc_lt wr (.cells #[.int .i64 x.1, .int .i64 x.2] 43) _ (World.block_lt_of_cell? wr _ hp)).trans hp
        have hp3 := World.block_lt_of_cell? wr _ hp
        by_cases c4 : p.2 ≥ x.1
        · have d4 : decide (p.2 ≥ x.1) = true := decide_eq_true c4
          go_quiet (fail)
          go_wp2
          go_ret
          refine HO.out _ ?_ (by unfold stepB; simp; omega)
          exact pw_below_drewN (hw.alloc hz _) _
        · have d4 : decide (p.2 ≥ x.1) = false := decide_eq_false c4
          go_quiet (fail)
          go_wp2
          go_roundw
          case rel => exact ⟨m + 1 + 1, by omega, by go_num, Lib.hid (HG.out (by unfold stepB; simp; omega)), pw_below_drewN (hw.alloc hz _) _⟩
          case measure => simp [intOf]; omega
    · obtain rfl : k = n := by omega
      have h := hb.out
      go_wp2
      go_ret
      exact ⟨by rw [h]; rfl, hw⟩
end Go.Proofs.YtjnlppmodagegaaDoor.HideW
