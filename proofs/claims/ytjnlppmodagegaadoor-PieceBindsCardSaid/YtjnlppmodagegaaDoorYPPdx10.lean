/- Printed for this claim by a program over the kit's print: Go functions as Lean functions, each with the proof that the call comes to what the function says. -/
import Derived.Test.YtjnlppmodagegaaDoorYPPdx0
import Derived.Test.YtjnlppmodagegaaDoorYPPdx2
import Derived.Test.YtjnlppmodagegaaDoorYPPdx7
namespace Go.Proofs.YtjnlppmodagegaaDoor.PPd
open Go.RowKit Go.Proofs.YtjnlppmodagegaaDoorW.PrintWords Go.Proofs.YtjnlppmodagegaaDoorW.PrintLast Go.Proofs.YtjnlppmodagegaaDoorW.PrintMore
theorem sqArv10_ {α : Type} (l : List α) (i : Nat) (a : α) : l.toArray.setIfInBounds i a = (l.set i a).toArray := List.setIfInBounds_toArray l i a
theorem sqBrv10_ {α : Type} (x a : α) (l : List α) : (x :: l).set 0 a = a :: l := rfl
theorem sqCrv10_ {α : Type} (x a : α) (l : List α) (n : Nat) : (x :: l).set (n + 1) a = x :: l.set n a := rfl
abbrev brv10_38_0 : Array Bool := #[false, false, false, false, false, false, false, false, false, false, false, false, false, false, false, false, false, false, false, false, false, false, false, false, false, false, false, false, false, false, false, false, false, false, false, false, false, false]
abbrev brv10_38_1 : Array Bool := #[true, false, false, false, false, false, false, false, false, false, false, false, false, false, false, false, false, false, false, false, false, false, false, false, false, false, false, false, false, false, false, false, false, false, false, false, false, false]
abbrev brv10_38_10 : Array Bool := #[true, true, true, true, true, true, true, true, true, true, false, false, false, false, false, false, false, false, false, false, false, false, false, false, false, false, false, false, false, false, false, false, false, false, false, false, false, false]
abbrev brv10_38_11 : Array Bool := #[true, true, true, true, true, true, true, true, true, true, true, false, false, false, false, false, false, false, false, false, false, false, false, false, false, false, false, false, false, false, false, false, false, false, false, false, false, false]
abbrev brv10_38_12 : Array Bool := #[true, true, true, true, true, true, true, true, true, true, true, true, false, false, false, false, false, false, false, false, false, false, false, false, false, false, false, false, false, false, false, false, false, false, false, false, false, false]
abbrev brv10_38_13 : Array Bool := #[true, true, true, true, true, true, true, true, true, true, true, true, true, false, false, false, false, false, false, false, false, false, false, false, false, false, false, false, false, false, false, false, false, false, false, false, false, false]
abbrev brv10_38_14 : Array Bool := #[true, true, true, true, true, true, true, true, true, true, true, true, true, true, false, false, false, false, false, false, false, false, false, false, false, false, false, false, false, false, false, false, false, false, false, false, false, false]
abbrev brv10_38_15 : Array Bool := #[true, true, true, true, true, true, true, true, true, true, true, true, true, true, true, false, false, false, false, false, false, false, false, false, false, false, false, false, false, false, false, false, false, false, false, false, false, false]
abbrev brv10_38_16 : Array Bool := #[true, true, true, true, true, true, true, true, true, true, true, true, true, true, true, true, false, false, false, false, false, false, false, false, false, false, false, false, false, false, false, false, false, false, false, false, false, false]
abbrev brv10_38_17 : Array Bool := #[true, true, true, true, true, true, true, true, true, true, true, true, true, true, true, true, true, false, false, false, false, false, false, false, false, false, false, false, false, false, false, false, false, false, false, false, false, false]
abbrev brv10_38_18 : Array Bool := #[true, true, true, true, true, true, true, true, true, true, true, true, true, true, true, true, true, true, false, false, false, false, false, false, false, false, false, false, false, false, false, false, false, false, false, false, false, false]
abbrev brv10_38_19 : Array Bool := #[true, true, true, true, true, true, true, true, true, true, true, true, true, true, true, true, true, true, true, false, false, false, false, false, false, false, false, false, false, false, false, false, false, false, false, false, false, false]
abbrev brv10_38_2 : Array Bool := #[true, true, false, false, false, false, false, false, false, false, false, false, false, false, false, false, false, false, false, false, false, false, false, false, false, false, false, false, false, false, false, false, false, false, false, false, false, false]
abbrev brv10_38_20 : Array Bool := #[true, true, true, true, true, true, true, true, true, true, true, true, true, true, true, true, true, true, true, true, false, false, false, false, false, false, false, false, false, false, false, false, false, false, false, false, false, false]
abbrev brv10_38_21 : Array Bool := #[true, true, true, true, true, true, true, true, true, true, true, true, true, true, true, true, true, true, true, true, true, false, false, false, false, false, false, false, false, false, false, false, false, false, false, false, false, false]
abbrev brv10_38_22 : Array Bool := #[true, true, true, true, true, true, true, true, true, true, true, true, true, true, true, true, true, true, true, true, true, true, false, false, false, false, false, false, false, false, false, false, false, false, false, false, false, false]
abbrev brv10_38_23 : Array Bool := #[true, true, true, true, true, true, true, true, true, true, true, true, true, true, true, true, true, true, true, true, true, true, true, false, false, false, false, false, false, false, false, false, false, false, false, false, false, false]
abbrev brv10_38_24 : Array Bool := #[true, true, true, true, true, true, true, true, true, true, true, true, true, true, true, true, true, true, true, true, true, true, true, true, false, false, false, false, false, false, false, false, false, false, false, false, false, false]
abbrev brv10_38_25 : Array Bool := #[true, true, true, true, true, true, true, true, true, true, true, true, true, true, true, true, true, true, true, true, true, true, true, true, true, false, false, false, false, false, false, false, false, false, false, false, false, false]
abbrev brv10_38_26 : Array Bool := #[true, true, true, true, true, true, true, true, true, true, true, true, true, true, true, true, true, true, true, true, true, true, true, true, true, true, false, false, false, false, false, false, false, false, false, false, false, false]
abbrev brv10_38_27 : Array Bool := #[true, true, true, true, true, true, true, true, true, true, true, true, true, true, true, true, true, true, true, true, true, true, true, true, true, true, true, false, false, false, false, false, false, false, false, false, false, false]
abbrev brv10_38_28 : Array Bool := #[true, true, true, true, true, true, true, true, true, true, true, true, true, true, true, true, true, true, true, true, true, true, true, true, true, true, true, true, false, false, false, false, false, false, false, false, false, false]
abbrev brv10_38_29 : Array Bool := #[true, true, true, true, true, true, true, true, true, true, true, true, true, true, true, true, true, true, true, true, true, true, true, true, true, true, true, true, true, false, false, false, false, false, false, false, false, false]
abbrev brv10_38_3 : Array Bool := #[true, true, true, false, false, false, false, false, false, false, false, false, false, false, false, false, false, false, false, false, false, false, false, false, false, false, false, false, false, false, false, false, false, false, false, false, false, false]
abbrev brv10_38_30 : Array Bool := #[true, true, true, true, true, true, true, true, true, true, true, true, true, true, true, true, true, true, true, true, true, true, true, true, true, true, true, true, true, true, false, false, false, false, false, false, false, false]
abbrev brv10_38_31 : Array Bool := #[true, true, true, true, true, true, true, true, true, true, true, true, true, true, true, true, true, true, true, true, true, true, true, true, true, true, true, true, true, true, true, false, false, false, false, false, false, false]
abbrev brv10_38_32 : Array Bool := #[true, true, true, true, true, true, true, true, true, true, true, true, true, true, true, true, true, true, true, true, true, true, true, true, true, true, true, true, true, true, true, true, false, false, false, false, false, false]
abbrev brv10_38_33 : Array Bool := #[true, true, true, true, true, true, true, true, true, true, true, true, true, true, true, true, true, true, true, true, true, true, true, true, true, true, true, true, true, true, true, true, true, false, false, false, false, false]
abbrev brv10_38_34 : Array Bool := #[true, true, true, true, true, true, true, true, true, true, true, true, true, true, true, true, true, true, true, true, true, true, true, true, true, true, true, true, true, true, true, true, true, true, false, false, false, false]
abbrev brv10_38_35 : Array Bool := #[true, true, true, true, true, true, true, true, true, true, true, true, true, true, true, true, true, true, true, true, true, true, true, true, true, true, true, true, true, true, true, true, true, true, true, false, false, false]
abbrev brv10_38_36 : Array Bool := #[true, true, true, true, true, true, true, true, true, true, true, true, true, true, true, true, true, true, true, true, true, true, true, true, true, true, true, true, true, true, true, true, true, true, true, true, false, false]
abbrev brv10_38_37 : Array Bool := #[true, true, true, true, true, true, true, true, true, true, true, true, true, true, true, true, true, true, true, true, true, true, true, true, true, true, true, true, true, true, true, true, true, true, true, true, true, false]
abbrev brv10_38_38 : Array Bool := #[true, true, true, true, true, true, true, true, true, true, true, true, true, true, true, true, true, true, true, true, true, true, true, true, true, true, true, true, true, true, true, true, true, true, true, true, true, true]
abbrev brv10_38_9 : Array Bool := #[true, true, true, true, true, true, true, true, true, false, false, false, false, false, false, false, false, false, false, false, false, false, false, false, false, false, false, false, false, false, false, false, false, false, false, false, false, false]
abbrev brv10_38_x1bfffffff : Array Bool := #[true, true, true, true, true, true, true, true, true, true, true, true, true, true, true, true, true, true, true, true, true, true, true, true, true, true, true, true, true, true, false, true, true, false, false, false, false, false]
abbrev brv10_38_x1ef : Array Bool := #[true, true, true, true, false, true, true, true, true, false, false, false, false, false, false, false, false, false, false, false, false, false, false, false, false, false, false, false, false, false, false, false, false, false, false, false, false, false]
abbrev brv10_38_x27 : Array Bool := #[true, true, true, false, false, true, false, false, false, false, false, false, false, false, false, false, false, false, false, false, false, false, false, false, false, false, false, false, false, false, false, false, false, false, false, false, false, false]
abbrev brv10_38_x3bfffffff : Array Bool := #[true, true, true, true, true, true, true, true, true, true, true, true, true, true, true, true, true, true, true, true, true, true, true, true, true, true, true, true, true, true, false, true, true, true, false, false, false, false]
abbrev brv10_38_x67 : Array Bool := #[true, true, true, false, false, true, true, false, false, false, false, false, false, false, false, false, false, false, false, false, false, false, false, false, false, false, false, false, false, false, false, false, false, false, false, false, false, false]
abbrev brv10_38_xbfffffff : Array Bool := #[true, true, true, true, true, true, true, true, true, true, true, true, true, true, true, true, true, true, true, true, true, true, true, true, true, true, true, true, true, true, false, true, false, false, false, false, false, false]
abbrev brv10_38_xe7 : Array Bool := #[true, true, true, false, false, true, true, true, false, false, false, false, false, false, false, false, false, false, false, false, false, false, false, false, false, false, false, false, false, false, false, false, false, false, false, false, false, false]
abbrev brv10_38_xef : Array Bool := #[true, true, true, true, false, true, true, true, false, false, false, false, false, false, false, false, false, false, false, false, false, false, false, false, false, false, false, false, false, false, false, false, false, false, false, false, false, false]
attribute [local go_sem] max2_int min2_int max_two min_two max_three min_three max_four min_four   -- for this text's walks alone
set_option linter.unusedVariables false
set_option linter.unusedSimpArgs false

attribute [local go_sem high] eqA45
/-! ### missivelaw20_alike: function 30 -/
def missivelaw20_alike.l0 : Nat → List (S45) → List (S45) → Int → Option (Bool)
  | 0, _, _, _ => none
  | k + 1, x0, x1, x5 => if x5 < (x0.length : Int) then (if 0 ≤ x5 then ((missivelaw20_leaf.f ((rd_T45 x0 x5).f0) ((rd_T45 x0 x5).f1) ((rd_T45 x0 x5).f2) ((rd_T45 x0 x5).f3)).bind fun t314 => (if x5 < (x1.length : Int) then ((missivelaw20_leaf.f ((rd_T45 x1 x5).f0) ((rd_T45 x1 x5).f1) ((rd_T45 x1 x5).f2) ((rd_T45 x1 x5).f3)).bind fun t316 => (if t314.toList = t316.toList then (if ((rd_T45 x0 x5).f0 = true) then (missivelaw20_alike.l0 k x0 x1 (wrap64 (x5 + 1))) else (if ((rd_T45 x1 x5).f0 = true) then (missivelaw20_alike.l0 k x0 x1 (wrap64 (x5 + 1))) else (if (!(((rd_T45 x0 x5).f0) == ((rd_T45 x1 x5).f0)) || (!((((rd_T45 x0 x5).f1).toList) == (((rd_T45 x1 x5).f1).toList)) || (!((((rd_T45 x0 x5).f2).toList) == (((rd_T45 x1 x5).f2).toList)) || (!((((rd_T45 x0 x5).f3).toList) == (((rd_T45 x1 x5).f3).toList)))))) = true then (some false) else (missivelaw20_alike.l0 k x0 x1 (wrap64 (x5 + 1)))))) else (some false))) else (none))) else (none)) else (some true)
def missivelaw20_alike.f (k : Nat) (l0 : List (S45)) (l1 : List (S45)) : Option (Bool) := if (l0.length : Int) = (l1.length : Int) then (missivelaw20_alike.l0 k l0 l1 0) else (some false)
theorem missivelaw20_alike.mono_l : ∀ k, (∀ y0 y1 y2, LeO (missivelaw20_alike.l0 k y0 y1 y2) (missivelaw20_alike.l0 (k + 1) y0 y1 y2))
  | 0 => fun _ _ _ r h => by simp [missivelaw20_alike.l0] at h
  | k + 1 => by
    have ih0 := missivelaw20_alike.mono_l k
    · intro y0 y1 y2
      unfold missivelaw20_alike.l0
      repeat' first
      | (with_reducible exact ih0 _ _ _)
      | (with_reducible exact LeO.refl _)
      | (with_reducible exact LeO.none _)
      | (with_reducible refine LeO.ite ?_ ?_)
      | (with_reducible refine LeO.bind ?_ (fun _ => ?_))
      | exact ih0 _ _ _
      | exact LeO.none _
      | refine LeO.ite ?_ ?_
      | refine LeO.bind ?_ (fun _ => ?_)
theorem missivelaw20_alike.mono : ∀ a0 a1 k, LeO (missivelaw20_alike.f k a0 a1) (missivelaw20_alike.f (k + 1) a0 a1) := by
  intro a0 a1 k
  have ih0 := missivelaw20_alike.mono_l k
  unfold missivelaw20_alike.f
  repeat' first
      | (with_reducible exact ih0 _ _ _)
      | (with_reducible exact LeO.refl _)
      | (with_reducible exact LeO.none _)
      | (with_reducible refine LeO.ite ?_ ?_)
      | (with_reducible refine LeO.bind ?_ (fun _ => ?_))
      | exact ih0 _ _ _
      | exact LeO.none _
      | refine LeO.ite ?_ ?_
      | refine LeO.bind ?_ (fun _ => ?_)
def missivelaw20_alike.T6 : Bool × List (List Nat × List Nat) := (true, [([], []), ([], []), ([0, 1], [0, 1]), ([2], [2]), ([3], [3]), ([], []), ([], []), ([5, 6], [5, 6]), ([7], [7]), ([8, 4], [8]), ([4, 9], [4, 9]), ([10, 9], [10]), ([11], [11]), ([11], [11]), ([12, 13, 11], [11, 12, 13]), ([14, 11], [11, 14]), ([15, 11], [11, 15]), ([16, 11], [11, 16]), ([17, 11, 11], [11, 17]), ([18], [18]), ([18], [18]), ([19, 20, 18], [18, 19, 20]), ([21, 18], [18, 21]), ([22, 18], [18, 22]), ([23, 18], [18, 23]), ([18, 24, 11], [11, 18, 24]), ([25, 18, 11], [11, 25]), ([26], [26]), ([26], [26]), ([27, 28, 26], [26, 27, 28]), ([29, 26], [26, 29]), ([26], [26]), ([26], [26]), ([31, 32, 26], [26, 31, 32]), ([33, 26], [26, 33]), ([30, 34, 26], [26, 30, 34]), ([26, 35, 11], [11, 26, 35]), ([11, 36], [11, 36])])
def missivelaw20_alike.B6 : List Nat := [0, 0, 3, 7, 15, 0, 0, 96, 224, 511, 1023, 2047, 4095, 4095, 16383, 32767, 65535, 131071, 262143, 524287, 524287, 2097151, 4194303, 8388607, 16777215, 33554431, 67108863, 134217727, 134217727, 536870911, 1073741823, 134217727, 134217727, 6576668671, 15166603263, 34359738367, 68719476735, 137438953471]
theorem missivelaw20_alike.tab6 : rtab .any (opsOf Tryd.f30 6) = missivelaw20_alike.T6 := by kernel_rfl
theorem missivelaw20_alike.bits6 : waitsOk missivelaw20_alike.T6.2 missivelaw20_alike.B6 = true := by kernel_rfl
set_option maxHeartbeats 8000000 in
set_option maxRecDepth 100000 in
theorem missivelaw20_alike.calls (k : Nat) (A0 : Option Addr) (c0 : Nat) (l0 : List (S45)) (A1 : Option Addr) (c1 : Nat) (l1 : List (S45)) (r : Bool) (w : World) (hG : GW w) (hr0 : Kd.C k45 w A0 l0.length l0) (hc0 : l0.length ≤ c0) (hr1 : Kd.C k45 w A1 l1.length l1) (hc1 : l1.length ≤ c1) (h : missivelaw20_alike.f k l0 l1 = some r) :
    Calls Tryd.prog 30 #[.slice A0 l0.length c0, .slice A1 l1.length c1] w fun e w' => e = .returned (.bool r) ∧ Below w.heap.size w w' := by
  (have HG_ := Aside0.mk hG); clear hG; (have hu45 := Tryd.underlying45); (have HR0 := Aside0.mk hr0); (have HC0 := Aside0.mk hc0); clear hr0 hc0; (have HR1 := Aside0.mk hr1); (have HC1 := Aside0.mk hc1); clear hr1 hc1; (have HB := Aside0.mk (Below.refl w.heap.size w)); (have H : (if (l0.length : Int) = (l1.length : Int) then (missivelaw20_alike.l0 k l0 l1 0) else (some false)) = some r := h); clear h
  by_cases c3 : (l0.length : Int) = (l1.length : Int)
  · rw [if_pos c3] at H
    (have c3b0 : ((l0.length : Int) == (l1.length : Int)) = true := beq_iff_eq.mpr c3); (have c3b1 : ((l0.length : Int) != (l1.length : Int)) = false := bne_eq_false_iff_eq.mpr c3); (have c3b2 : (l0.length == l1.length) = true := by first | simpa using c3 | (simp at c3 ⊢; omega)); clear c3; (have H' := Aside0.mk H); clear H; (go_enter Tryd.func30, Tryd.ntmps30); go_wp2; (go_loopg [5] k (fun kq v5 w' => ∃ (x5_1 : Int), v5 = .int .i64 x5_1 ∧ Aside0 (missivelaw20_alike.l0 kq l0 l1 x5_1 = some r) ∧ Aside0 (kq ≤ k) ∧ Aside0 (Below w.heap.size w w')))
    case atStart => exact ⟨(0), (by first | rfl | (simp; done) | (simp [*]; done)), H', ⟨Nat.le_refl _⟩, ⟨by repeat (first | (with_reducible first | exact HB.out | apply below_alloc | apply pw_below_drewN | apply below_drew1) | exact HB.out)⟩⟩
    case round =>
      (clear H'); (try clear c1); (try clear p2); (try clear c3); (try clear c3b0); (try clear c3b1); (try clear c3b2)
      obtain ⟨x5_1, rfl, HA, HK1, HB⟩ := hrel
      cases gk with
      | zero => exact absurd HA.out (by simp [missivelaw20_alike.l0])
      | succ k1 =>
        (have H := HA.out); clear HA; (simp only [missivelaw20_alike.l0] at H)
        by_cases c4 : x5_1 < (l0.length : Int)
        · rw [if_pos c4] at H
          (have c4b0 : decide (x5_1 < (l0.length : Int)) = true := decide_eq_true c4); clear c4
          by_cases c5 : 0 ≤ x5_1
          · rw [if_pos c5] at H
            (have c5b0 : decide (0 ≤ x5_1) = true := decide_eq_true c5); clear c5; (replace H := Option.bind_eq_some_iff.mp H)
            obtain ⟨t314, A60, H⟩ := H
            (replace H : (if x5_1 < (l1.length : Int) then ((missivelaw20_leaf.f ((rd_T45 l1 x5_1).f0) ((rd_T45 l1 x5_1).f1) ((rd_T45 l1 x5_1).f2) ((rd_T45 l1 x5_1).f3)).bind fun t316 => (if t314.toList = t316.toList then (if ((rd_T45 l0 x5_1).f0 = true) then (missivelaw20_alike.l0 k1 l0 l1 (wrap64 (x5_1 + 1))) else (if ((rd_T45 l1 x5_1).f0 = true) then (missivelaw20_alike.l0 k1 l0 l1 (wrap64 (x5_1 + 1))) else (if (!(((rd_T45 l0 x5_1).f0) == ((rd_T45 l1 x5_1).f0)) || (!((((rd_T45 l0 x5_1).f1).toList) == (((rd_T45 l1 x5_1).f1).toList)) || (!((((rd_T45 l0 x5_1).f2).toList) == (((rd_T45 l1 x5_1).f2).toList)) || (!((((rd_T45 l0 x5_1).f3).toList) == (((rd_T45 l1 x5_1).f3).toList)))))) = true then (some false) else (missivelaw20_alike.l0 k1 l0 l1 (wrap64 (x5_1 + 1)))))) else (some false))) else (none)) = some r := H); (have A6 := Aside0.mk A60); clear A60
            by_cases c7 : x5_1 < (l1.length : Int)
            · rw [if_pos c7] at H
              (have c7b0 : decide (x5_1 < (l1.length : Int)) = true := decide_eq_true c7); clear c7; (replace H := Option.bind_eq_some_iff.mp H)
              obtain ⟨t316, A80, H⟩ := H
              (replace H : (if t314.toList = t316.toList then (if ((rd_T45 l0 x5_1).f0 = true) then (missivelaw20_alike.l0 k1 l0 l1 (wrap64 (x5_1 + 1))) else (if ((rd_T45 l1 x5_1).f0 = true) then (missivelaw20_alike.l0 k1 l0 l1 (wrap64 (x5_1 + 1))) else (if (!(((rd_T45 l0 x5_1).f0) == ((rd_T45 l1 x5_1).f0)) || (!((((rd_T45 l0 x5_1).f1).toList) == (((rd_T45 l1 x5_1).f1).toList)) || (!((((rd_T45 l0 x5_1).f2).toList) == (((rd_T45 l1 x5_1).f2).toList)) || (!((((rd_T45 l0 x5_1).f3).toList) == (((rd_T45 l1 x5_1).f3).toList)))))) = true then (some false) else (missivelaw20_alike.l0 k1 l0 l1 (wrap64 (x5_1 + 1)))))) else (some false)) = some r := H); (have A8 := Aside0.mk A80); clear A80
              by_cases c9 : t314.toList = t316.toList
              · rw [if_pos c9] at H
                (have c9b0 : (t314.toList == t316.toList) = true := beq_iff_eq.mpr c9); (have c9b1 : (t314.toList != t316.toList) = false := bne_eq_false_iff_eq.mpr c9); clear c9
                obtain ⟨bq10, hbq10⟩ : ∃ b_ : Bool, b_ = ((rd_T45 l0 x5_1).f0) := ⟨_, rfl⟩
                (replace H : (if (bq10 = true) then (missivelaw20_alike.l0 k1 l0 l1 (wrap64 (x5_1 + 1))) else (if ((rd_T45 l1 x5_1).f0 = true) then (missivelaw20_alike.l0 k1 l0 l1 (wrap64 (x5_1 + 1))) else (if (!((bq10) == ((rd_T45 l1 x5_1).f0)) || (!((((rd_T45 l0 x5_1).f1).toList) == (((rd_T45 l1 x5_1).f1).toList)) || (!((((rd_T45 l0 x5_1).f2).toList) == (((rd_T45 l1 x5_1).f2).toList)) || (!((((rd_T45 l0 x5_1).f3).toList) == (((rd_T45 l1 x5_1).f3).toList)))))) = true then (some false) else (missivelaw20_alike.l0 k1 l0 l1 (wrap64 (x5_1 + 1)))))) = some r := by rw [← hbq10] at H; exact H); (have Nbq10 := Aside0.mk hbq10); clear hbq10
                by_cases c11 : (bq10 = true)
                · subst c11
                  (have H1 : (missivelaw20_alike.l0 k1 l0 l1 (wrap64 (x5_1 + 1))) = some r := by rw [if_pos rfl] at H; exact H); clear H; (have H := H1); clear H1; (have H' := Aside0.mk H); clear H; (try go_wp2); (have n0_ := Aside0.mk (below_drew1 HB.out)); clear HB; (have HB := n0_); clear n0_; (have p313 : 0 ≤ (x5_1 : Int) := of_decide_eq_true (by first | (with_reducible assumption) | assumption)); (have q313 : x5_1 < (l0.length : Int) := of_decide_eq_true (by first | (with_reducible assumption) | assumption))
                  obtain ⟨ad313, e313, hx313_0, hx313_1, hx313_2, hx313_3⟩ := at_T45 HR0.out x5_1 p313 q313
                  (have hw313_3 := hx313_3); (have hw313_2 := hx313_2); (have hw313_1 := hx313_1); (have hw313_0 := hx313_0); (try rw [← Nbq10.out] at hx313_0); (try rw [← Nbq10.out] at hw313_0)
                  cases e313
                  (replace hx313_0 := (HB.out.cell (World.block_lt_of_cell? w _ hx313_0)).trans hx313_0); (replace hx313_1 := (HB.out.cell (World.block_lt_of_cell? w _ hx313_1)).trans hx313_1); (replace hx313_2 := (HB.out.cell (World.block_lt_of_cell? w _ hx313_2)).trans hx313_2); (replace hx313_3 := (HB.out.cell (World.block_lt_of_cell? w _ hx313_3)).trans hx313_3); (replace p313 := eq_true p313); (replace q313 := eq_true q313); (have p315 : 0 ≤ (x5_1 : Int) := of_decide_eq_true (by first | (with_reducible assumption) | assumption)); (have q315 : x5_1 < (l1.length : Int) := of_decide_eq_true (by first | (with_reducible assumption) | assumption))
                  obtain ⟨ad315, e315, hx315_0, hx315_1, hx315_2, hx315_3⟩ := at_T45 HR1.out x5_1 p315 q315
                  (have hw315_3 := hx315_3); (have hw315_2 := hx315_2); (have hw315_1 := hx315_1); (have hw315_0 := hx315_0); (try rw [← Nbq10.out] at hx315_0); (try rw [← Nbq10.out] at hw315_0)
                  cases e315
                  (replace hx315_0 := (HB.out.cell (World.block_lt_of_cell? w _ hx315_0)).trans hx315_0); (replace hx315_1 := (HB.out.cell (World.block_lt_of_cell? w _ hx315_1)).trans hx315_1); (replace hx315_2 := (HB.out.cell (World.block_lt_of_cell? w _ hx315_2)).trans hx315_2); (replace hx315_3 := (HB.out.cell (World.block_lt_of_cell? w _ hx315_3)).trans hx315_3); (replace p315 := eq_true p315); (replace q315 := eq_true q315); (have p317 : 0 ≤ (x5_1 : Int) := of_decide_eq_true (by first | (with_reducible assumption) | assumption)); (have q317 : x5_1 < (l0.length : Int) := of_decide_eq_true (by first | (with_reducible assumption) | assumption))
                  obtain ⟨ad317, e317, hx317_0, hx317_1, hx317_2, hx317_3⟩ := at_T45 HR0.out x5_1 p317 q317
                  (have hw317_3 := hx317_3); (have hw317_2 := hx317_2); (have hw317_1 := hx317_1); (have hw317_0 := hx317_0); (try rw [← Nbq10.out] at hx317_0); (try rw [← Nbq10.out] at hw317_0)
                  obtain rfl : ad313 = ad317 := (by injection e317)
                  (replace hx317_0 := (HB.out.cell (World.block_lt_of_cell? w _ hx317_0)).trans hx317_0); (replace hx317_1 := (HB.out.cell (World.block_lt_of_cell? w _ hx317_1)).trans hx317_1); (replace hx317_2 := (HB.out.cell (World.block_lt_of_cell? w _ hx317_2)).trans hx317_2); (replace hx317_3 := (HB.out.cell (World.block_lt_of_cell? w _ hx317_3)).trans hx317_3); (replace p317 := eq_true p317); (replace q317 := eq_true q317); (refine start_ (n := 38) (S := fun w' => w'.cell? (ad313.add ((x5_1).toNat * 4)) = some (.bool true) ∧ w'.cell? ⟨(ad313.add ((x5_1).toNat * 4)).block, (ad313.add ((x5_1).toNat * 4)).off + 1, none⟩ = some (.string ((rd_T45 l0 x5_1).f1)) ∧ w'.cell? ⟨(ad313.add ((x5_1).toNat * 4)).block, (ad313.add ((x5_1).toNat * 4)).off + 2, none⟩ = some (.string ((rd_T45 l0 x5_1).f2)) ∧ w'.cell? ⟨(ad313.add ((x5_1).toNat * 4)).block, (ad313.add ((x5_1).toNat * 4)).off + 3, none⟩ = some (.string ((rd_T45 l0 x5_1).f3)) ∧ w'.cell? (ad315.add ((x5_1).toNat * 4)) = some (.bool ((rd_T45 l1 x5_1).f0)) ∧ w'.cell? ⟨(ad315.add ((x5_1).toNat * 4)).block, (ad315.add ((x5_1).toNat * 4)).off + 1, none⟩ = some (.string ((rd_T45 l1 x5_1).f1)) ∧ w'.cell? ⟨(ad315.add ((x5_1).toNat * 4)).block, (ad315.add ((x5_1).toNat * 4)).off + 2, none⟩ = some (.string ((rd_T45 l1 x5_1).f2)) ∧ w'.cell? ⟨(ad315.add ((x5_1).toNat * 4)).block, (ad315.add ((x5_1).toNat * 4)).off + 3, none⟩ = some (.string ((rd_T45 l1 x5_1).f3)) ∧ w'.cell? (ad313.add ((x5_1).toNat * 4)) = some (.bool true) ∧ w'.cell? ⟨(ad313.add ((x5_1).toNat * 4)).block, (ad313.add ((x5_1).toNat * 4)).off + 1, none⟩ = some (.string ((rd_T45 l0 x5_1).f1)) ∧ w'.cell? ⟨(ad313.add ((x5_1).toNat * 4)).block, (ad313.add ((x5_1).toNat * 4)).off + 2, none⟩ = some (.string ((rd_T45 l0 x5_1).f2)) ∧ w'.cell? ⟨(ad313.add ((x5_1).toNat * 4)).block, (ad313.add ((x5_1).toNat * 4)).off + 3, none⟩ = some (.string ((rd_T45 l0 x5_1).f3))) (ds := []) brv10_38_0 (by kernel_rfl) rfl rfl ⟨((HB.out.cell (World.block_lt_of_cell? w _ hw313_0)).trans hw313_0), ((HB.out.cell (World.block_lt_of_cell? w _ hw313_1)).trans hw313_1), ((HB.out.cell (World.block_lt_of_cell? w _ hw313_2)).trans hw313_2), ((HB.out.cell (World.block_lt_of_cell? w _ hw313_3)).trans hw313_3), ((HB.out.cell (World.block_lt_of_cell? w _ hw315_0)).trans hw315_0), ((HB.out.cell (World.block_lt_of_cell? w _ hw315_1)).trans hw315_1), ((HB.out.cell (World.block_lt_of_cell? w _ hw315_2)).trans hw315_2), ((HB.out.cell (World.block_lt_of_cell? w _ hw315_3)).trans hw315_3), ((HB.out.cell (World.block_lt_of_cell? w _ hw317_0)).trans hw317_0), ((HB.out.cell (World.block_lt_of_cell? w _ hw317_1)).trans hw317_1), ((HB.out.cell (World.block_lt_of_cell? w _ hw317_2)).trans hw317_2), ((HB.out.cell (World.block_lt_of_cell? w _ hw317_3)).trans hw317_3)⟩ (fun hHeld => ?_); refine with_tabW missivelaw20_alike.tab6 missivelaw20_alike.bits6 (fun HT_ HW_ => ?_))
                  generalize wr.drew = w12 at HB hx313_0 hx313_1 hx313_2 hx313_3 hx315_0 hx315_1 hx315_2 hx315_3 hx317_0 hx317_1 hx317_2 hx317_3 hHeld ⊢
                  (refine pure_ (i := 0) (N := some 17) (v := ?_) (a' := ?_) brv10_38_1 rfl rfl (any_of HT_.out (by kernel_rfl)) (fun _ _ _ h => h) (Or.inl ⟨by rfl, ?_⟩) ?_ ?_); rotate_left
                  · intro w'
                    go_simp; with_reducible rfl
                  rotate_left
                  · simp only [Act.put, sqArv10_, sqBrv10_, sqCrv10_, i64_w, i32_w]
                    rfl
                  (refine pure_ (i := 1) (N := some 18) (v := ?_) (a' := ?_) brv10_38_2 rfl rfl (any_of HT_.out (by kernel_rfl)) (fun _ _ _ h => h) (Or.inl ⟨by rfl, ?_⟩) ?_ ?_); rotate_left
                  · intro w'
                    go_simp; with_reducible rfl
                  rotate_left
                  · simp only [Act.put, sqArv10_, sqBrv10_, sqCrv10_, i64_w, i32_w]
                    rfl
                  (refine pure_ (i := 2) (N := some 19) (v := ?_) (a' := ?_) brv10_38_3 rfl rfl (any_of HT_.out (by kernel_rfl)) (fun _ _ _ h => h) (Or.inl ⟨by rfl, ?_⟩) ?_ ?_); rotate_left
                  · intro w'
                    go_simp; with_reducible rfl
                  rotate_left
                  · simp only [Act.put, sqArv10_, sqBrv10_, sqCrv10_, i64_w, i32_w]
                    rfl
                  (refine pure_ (i := 5) (N := some 22) (v := ?_) (a' := ?_) brv10_38_x27 rfl rfl (any_of HT_.out (by kernel_rfl)) (fun _ _ _ h => h) (Or.inl ⟨by rfl, ?_⟩) ?_ ?_); rotate_left
                  · intro w'
                    go_simp; with_reducible rfl
                  rotate_left
                  · simp only [Act.put, sqArv10_, sqBrv10_, sqCrv10_, i64_w, i32_w]
                    rfl
                  (refine pure_ (i := 6) (N := some 23) (v := ?_) (a' := ?_) brv10_38_x67 rfl rfl (any_of HT_.out (by kernel_rfl)) (fun _ _ _ h => h) (Or.inl ⟨by rfl, ?_⟩) ?_ ?_); rotate_left
                  · intro w'
                    go_simp; with_reducible rfl
                  rotate_left
                  · simp only [Act.put, sqArv10_, sqBrv10_, sqCrv10_, i64_w, i32_w]
                    rfl
                  (refine pure_ (i := 7) (N := some 24) (v := ?_) (a' := ?_) brv10_38_xe7 rfl rfl (any_of HT_.out (by kernel_rfl)) (fun _ _ _ h => h) (Or.inl ⟨by rfl, ?_⟩) ?_ ?_); rotate_left
                  · intro w'
                    go_simp; with_reducible rfl
                  rotate_left
                  · simp only [Act.put, sqArv10_, sqBrv10_, sqCrv10_, i64_w, i32_w]
                    rfl
                  (refine take_ (i := 3) (N := some 20) (v := ?_) (a' := ?_) brv10_38_xef rfl rfl (take_ofW HT_.out HW_.out (by kernel_rfl)) (fun _ _ _ h => h) (Or.inl ⟨by rfl, ?_⟩) hHeld ?_ ?_); rotate_left
                  · rintro w' ⟨s0, s1, s2, s3, s4, s5, s6, s7, s8, s9, s10, s11⟩
                    go_simp; with_reducible rfl
                  rotate_left
                  · simp only [Act.put, sqArv10_, sqBrv10_, sqCrv10_, i64_w, i32_w]
                    rfl
                  (refine take_ (i := 8) (N := some 25) (v := ?_) (a' := ?_) brv10_38_x1ef rfl rfl (take_ofW HT_.out HW_.out (by kernel_rfl)) (fun _ _ _ h => h) (Or.inl ⟨by rfl, ?_⟩) hHeld ?_ ?_); rotate_left
                  · rintro w' ⟨s0, s1, s2, s3, s4, s5, s6, s7, s8, s9, s10, s11⟩
                    go_simp; with_reducible rfl
                  rotate_left
                  · simp only [Act.put, sqArv10_, sqBrv10_, sqCrv10_, i64_w, i32_w]
                    rfl
                  (refine one_ (i := 4) (N := some 21) brv10_38_9 rfl rfl (one_of HT_.out (by kernel_rfl)) (by decide) (fun K hK => ?_)); (refine goes_ Tryd.func67 (by kernel_rfl) rfl #[.agg #[.bool true, .string ((rd_T45 l0 x5_1).f1), .string ((rd_T45 l0 x5_1).f2), .string ((rd_T45 l0 x5_1).f3)]] (by rfl) rfl rfl (by (try simp only [List.map_toArray, List.map_cons, List.map_nil]); first | done | rfl | (simp only [List.length_drop, List.length_take]; rfl)) ?_); (with_reducible refine (missivelaw20_leaf.calls true ((rd_T45 l0 x5_1).f1) ((rd_T45 l0 x5_1).f2) ((rd_T45 l0 x5_1).f3) t314 _ (by first | ((repeat (first | exact HG_.out | apply GW.drewN | apply GW.drew | apply GW.alloc)); done) | exact GW.below HG_.out (by repeat (first | (with_reducible first | exact HB.out | apply below_alloc | apply pw_below_drewN | apply below_drew1) | exact HB.out))) (by have a_ := A6.out; (try simp only [← Nbq10.out] at a_); exact a_)).mono ?_); (rintro e w13 ⟨rfl, hb⟩); (refine ⟨_, rfl, ?_⟩); (have n0_ := Aside0.mk (below_step (by repeat (first | (with_reducible first | exact HB.out | apply below_alloc | apply pw_below_drewN | apply below_drew1) | exact HB.out)) hb)); clear HB; (have HB := n0_); clear n0_; (try clear hb); (try clear hb2); (try clear hk); (try clear hi); (refine hK.out _ _ ⟨((HB.out.cell (World.block_lt_of_cell? w _ hw313_0)).trans hw313_0), ((HB.out.cell (World.block_lt_of_cell? w _ hw313_1)).trans hw313_1), ((HB.out.cell (World.block_lt_of_cell? w _ hw313_2)).trans hw313_2), ((HB.out.cell (World.block_lt_of_cell? w _ hw313_3)).trans hw313_3), ((HB.out.cell (World.block_lt_of_cell? w _ hw315_0)).trans hw315_0), ((HB.out.cell (World.block_lt_of_cell? w _ hw315_1)).trans hw315_1), ((HB.out.cell (World.block_lt_of_cell? w _ hw315_2)).trans hw315_2), ((HB.out.cell (World.block_lt_of_cell? w _ hw315_3)).trans hw315_3), ((HB.out.cell (World.block_lt_of_cell? w _ hw317_0)).trans hw317_0), ((HB.out.cell (World.block_lt_of_cell? w _ hw317_1)).trans hw317_1), ((HB.out.cell (World.block_lt_of_cell? w _ hw317_2)).trans hw317_2), ((HB.out.cell (World.block_lt_of_cell? w _ hw317_3)).trans hw317_3)⟩ (fun hHeld => ?_)); clear hK K; (refine norm_ (a' := ?_) ?_ ?_); rotate_left
                  · show Act.put _ (some 21) _ = _
                    (simp only [Act.put, sqArv10_, sqBrv10_, sqCrv10_, i64_w, i32_w]); rfl
                  (refine one_ (i := 9) (N := some 26) brv10_38_10 rfl rfl (one_of HT_.out (by kernel_rfl)) (by decide) (fun K hK => ?_)); (refine goes_ Tryd.func67 (by kernel_rfl) rfl #[.agg #[.bool ((rd_T45 l1 x5_1).f0), .string ((rd_T45 l1 x5_1).f1), .string ((rd_T45 l1 x5_1).f2), .string ((rd_T45 l1 x5_1).f3)]] (by rfl) rfl rfl (by (try simp only [List.map_toArray, List.map_cons, List.map_nil]); first | done | rfl | (simp only [List.length_drop, List.length_take]; rfl)) ?_); (with_reducible refine (missivelaw20_leaf.calls ((rd_T45 l1 x5_1).f0) ((rd_T45 l1 x5_1).f1) ((rd_T45 l1 x5_1).f2) ((rd_T45 l1 x5_1).f3) t316 _ (by first | ((repeat (first | exact HG_.out | apply GW.drewN | apply GW.drew | apply GW.alloc)); done) | exact GW.below HG_.out (by repeat (first | (with_reducible first | exact HB.out | apply below_alloc | apply pw_below_drewN | apply below_drew1) | exact HB.out))) (by have a_ := A8.out; (try simp only [← Nbq10.out] at a_); exact a_)).mono ?_); (rintro e w14 ⟨rfl, hb⟩); (refine ⟨_, rfl, ?_⟩); (have n0_ := Aside0.mk (below_step (by repeat (first | (with_reducible first | exact HB.out | apply below_alloc | apply pw_below_drewN | apply below_drew1) | exact HB.out)) hb)); clear HB; (have HB := n0_); clear n0_; (try clear hb); (try clear hb2); (try clear hk); (try clear hi); (refine hK.out _ _ ⟨((HB.out.cell (World.block_lt_of_cell? w _ hw313_0)).trans hw313_0), ((HB.out.cell (World.block_lt_of_cell? w _ hw313_1)).trans hw313_1), ((HB.out.cell (World.block_lt_of_cell? w _ hw313_2)).trans hw313_2), ((HB.out.cell (World.block_lt_of_cell? w _ hw313_3)).trans hw313_3), ((HB.out.cell (World.block_lt_of_cell? w _ hw315_0)).trans hw315_0), ((HB.out.cell (World.block_lt_of_cell? w _ hw315_1)).trans hw315_1), ((HB.out.cell (World.block_lt_of_cell? w _ hw315_2)).trans hw315_2), ((HB.out.cell (World.block_lt_of_cell? w _ hw315_3)).trans hw315_3), ((HB.out.cell (World.block_lt_of_cell? w _ hw317_0)).trans hw317_0), ((HB.out.cell (World.block_lt_of_cell? w _ hw317_1)).trans hw317_1), ((HB.out.cell (World.block_lt_of_cell? w _ hw317_2)).trans hw317_2), ((HB.out.cell (World.block_lt_of_cell? w _ hw317_3)).trans hw317_3)⟩ (fun hHeld => ?_)); clear hK K; (refine norm_ (a' := ?_) ?_ ?_); rotate_left
                  · show Act.put _ (some 26) _ = _
                    (simp only [Act.put, sqArv10_, sqBrv10_, sqCrv10_, i64_w, i32_w]); rfl
                  (refine pure_ (i := 10) (N := some 27) (v := ?_) (a' := ?_) brv10_38_11 rfl rfl (any_of HT_.out (by kernel_rfl)) (fun _ _ _ h => h) (Or.inl ⟨by rfl, ?_⟩) ?_ ?_); rotate_left
                  · intro w'
                    go_simp; with_reducible rfl
                  rotate_left
                  · simp only [Act.put, sqArv10_, sqBrv10_, sqCrv10_, i64_w, i32_w]
                    rfl
                  (refine pure_ (i := 11) (N := some 28) (v := ?_) (a' := ?_) brv10_38_12 rfl rfl (any_of HT_.out (by kernel_rfl)) (fun _ _ _ h => h) (Or.inl ⟨by rfl, ?_⟩) ?_ ?_); rotate_left
                  · intro w'
                    go_simp; with_reducible rfl
                  rotate_left
                  · simp only [Act.put, sqArv10_, sqBrv10_, sqCrv10_, i64_w, i32_w]
                    rfl
                  (refine pure_ (i := 12) (N := some 29) (v := ?_) (a' := ?_) brv10_38_13 rfl rfl (any_of HT_.out (by kernel_rfl)) (fun _ _ _ h => h) (Or.inl ⟨by rfl, ?_⟩) ?_ ?_); rotate_left
                  · intro w'
                    go_simp; with_reducible rfl
                  rotate_left
                  · simp only [Act.put, sqArv10_, sqBrv10_, sqCrv10_, i64_w, i32_w]
                    rfl
                  (refine pure_ (i := 13) (N := some 30) (v := ?_) (a' := ?_) brv10_38_14 rfl rfl (any_of HT_.out (by kernel_rfl)) (fun _ _ _ h => h) (Or.inl ⟨by rfl, ?_⟩) ?_ ?_); rotate_left
                  · intro w'
                    go_simp; with_reducible rfl
                  rotate_left
                  · simp only [Act.put, sqArv10_, sqBrv10_, sqCrv10_, i64_w, i32_w]
                    rfl
                  (refine pure_ (i := 14) (N := some 31) (v := ?_) (a' := ?_) brv10_38_15 rfl rfl (any_of HT_.out (by kernel_rfl)) (fun _ _ _ h => h) (Or.inl ⟨by rfl, ?_⟩) ?_ ?_); rotate_left
                  · intro w'
                    go_simp; with_reducible rfl
                  rotate_left
                  · simp only [Act.put, sqArv10_, sqBrv10_, sqCrv10_, i64_w, i32_w]
                    rfl
                  (refine pure_ (i := 15) (N := some 32) (v := ?_) (a' := ?_) brv10_38_16 rfl rfl (any_of HT_.out (by kernel_rfl)) (fun _ _ _ h => h) (Or.inl ⟨by rfl, ?_⟩) ?_ ?_); rotate_left
                  · intro w'
                    go_simp; with_reducible rfl
                  rotate_left
                  · simp only [Act.put, sqArv10_, sqBrv10_, sqCrv10_, i64_w, i32_w]
                    rfl
                  (refine take_ (i := 16) (N := some 33) (v := ?_) (a' := ?_) brv10_38_17 rfl rfl (take_ofW HT_.out HW_.out (by kernel_rfl)) (fun _ _ _ h => h) (Or.inl ⟨by rfl, ?_⟩) hHeld ?_ ?_); rotate_left
                  · rintro w' ⟨s0, s1, s2, s3, s4, s5, s6, s7, s8, s9, s10, s11⟩
                    go_simp; with_reducible rfl
                  rotate_left
                  · simp only [Act.put, sqArv10_, sqBrv10_, sqCrv10_, i64_w, i32_w]
                    rfl
                  (refine pure_ (i := 17) (N := some 34) (v := ?_) (a' := ?_) brv10_38_18 rfl rfl (any_of HT_.out (by kernel_rfl)) (fun _ _ _ h => h) (Or.inl ⟨by rfl, ?_⟩) ?_ ?_); rotate_left
                  · intro w'
                    go_simp; with_reducible rfl
                  rotate_left
                  · simp only [Act.put, sqArv10_, sqBrv10_, sqCrv10_, i64_w, i32_w]
                    rfl
                  (refine pure_ (i := 18) (N := some 35) (v := ?_) (a' := ?_) brv10_38_19 rfl rfl (any_of HT_.out (by kernel_rfl)) (fun _ _ _ h => h) (Or.inl ⟨by rfl, ?_⟩) ?_ ?_); rotate_left
                  · intro w'
                    go_simp; with_reducible rfl
                  rotate_left
                  · simp only [Act.put, sqArv10_, sqBrv10_, sqCrv10_, i64_w, i32_w]
                    rfl
                  (refine pure_ (i := 19) (N := some 36) (v := undef) (a' := ?_) brv10_38_20 rfl rfl (any_of HT_.out (by kernel_rfl)) (fun _ _ _ h => h) (Or.inr ⟨by rfl, rfl⟩) ?_ ?_); rotate_left
                  · simp only [Act.put, sqArv10_, sqBrv10_, sqCrv10_, i64_w, i32_w]
                    rfl
                  (refine pure_ (i := 20) (N := some 37) (v := undef) (a' := ?_) brv10_38_21 rfl rfl (any_of HT_.out (by kernel_rfl)) (fun _ _ _ h => h) (Or.inr ⟨by rfl, rfl⟩) ?_ ?_); rotate_left
                  · simp only [Act.put, sqArv10_, sqBrv10_, sqCrv10_, i64_w, i32_w]
                    rfl
                  (refine pure_ (i := 21) (N := some 38) (v := undef) (a' := ?_) brv10_38_22 rfl rfl (any_of HT_.out (by kernel_rfl)) (fun _ _ _ h => h) (Or.inr ⟨by rfl, rfl⟩) ?_ ?_); rotate_left
                  · simp only [Act.put, sqArv10_, sqBrv10_, sqCrv10_, i64_w, i32_w]
                    rfl
                  (refine pure_ (i := 22) (N := some 39) (v := undef) (a' := ?_) brv10_38_23 rfl rfl (any_of HT_.out (by kernel_rfl)) (fun _ _ _ h => h) (Or.inr ⟨by rfl, rfl⟩) ?_ ?_); rotate_left
                  · simp only [Act.put, sqArv10_, sqBrv10_, sqCrv10_, i64_w, i32_w]
                    rfl
                  (refine pure_ (i := 23) (N := some 40) (v := undef) (a' := ?_) brv10_38_24 rfl rfl (any_of HT_.out (by kernel_rfl)) (fun _ _ _ h => h) (Or.inr ⟨by rfl, rfl⟩) ?_ ?_); rotate_left
                  · simp only [Act.put, sqArv10_, sqBrv10_, sqCrv10_, i64_w, i32_w]
                    rfl
                  (refine pure_ (i := 24) (N := some 41) (v := undef) (a' := ?_) brv10_38_25 rfl rfl (any_of HT_.out (by kernel_rfl)) (fun _ _ _ h => h) (Or.inr ⟨by rfl, rfl⟩) ?_ ?_); rotate_left
                  · simp only [Act.put, sqArv10_, sqBrv10_, sqCrv10_, i64_w, i32_w]
                    rfl
                  (refine pure_ (i := 25) (N := some 42) (v := ?_) (a' := ?_) brv10_38_26 rfl rfl (any_of HT_.out (by kernel_rfl)) (fun _ _ _ h => h) (Or.inl ⟨by rfl, ?_⟩) ?_ ?_); rotate_left
                  · intro w'
                    go_simp; with_reducible rfl
                  rotate_left
                  · simp only [Act.put, sqArv10_, sqBrv10_, sqCrv10_, i64_w, i32_w]
                    rfl
                  (refine pure_ (i := 26) (N := some 43) (v := ?_) (a' := ?_) brv10_38_27 rfl rfl (any_of HT_.out (by kernel_rfl)) (fun _ _ _ h => h) (Or.inl ⟨by rfl, ?_⟩) ?_ ?_); rotate_left
                  · intro w'
                    go_simp; with_reducible rfl
                  rotate_left
                  · simp only [Act.put, sqArv10_, sqBrv10_, sqCrv10_, i64_w, i32_w]
                    rfl
                  (refine pure_ (i := 27) (N := some 44) (v := undef) (a' := ?_) brv10_38_28 rfl rfl (any_of HT_.out (by kernel_rfl)) (fun _ _ _ h => h) (Or.inr ⟨by rfl, rfl⟩) ?_ ?_); rotate_left
                  · simp only [Act.put, sqArv10_, sqBrv10_, sqCrv10_, i64_w, i32_w]
                    rfl
                  (refine pure_ (i := 28) (N := some 45) (v := undef) (a' := ?_) brv10_38_29 rfl rfl (any_of HT_.out (by kernel_rfl)) (fun _ _ _ h => h) (Or.inr ⟨by rfl, rfl⟩) ?_ ?_); rotate_left
                  · simp only [Act.put, sqArv10_, sqBrv10_, sqCrv10_, i64_w, i32_w]
                    rfl
                  (refine pure_ (i := 29) (N := some 46) (v := undef) (a' := ?_) brv10_38_30 rfl rfl (any_of HT_.out (by kernel_rfl)) (fun _ _ _ h => h) (Or.inr ⟨by rfl, rfl⟩) ?_ ?_); rotate_left
                  · simp only [Act.put, sqArv10_, sqBrv10_, sqCrv10_, i64_w, i32_w]
                    rfl
                  (refine pure_ (i := 30) (N := some 47) (v := undef) (a' := ?_) brv10_38_31 rfl rfl (any_of HT_.out (by kernel_rfl)) (fun _ _ _ h => h) (Or.inr ⟨by rfl, rfl⟩) ?_ ?_); rotate_left
                  · simp only [Act.put, sqArv10_, sqBrv10_, sqCrv10_, i64_w, i32_w]
                    rfl
                  (refine pure_ (i := 31) (N := some 48) (v := undef) (a' := ?_) brv10_38_32 rfl rfl (any_of HT_.out (by kernel_rfl)) (fun _ _ _ h => h) (Or.inr ⟨by rfl, rfl⟩) ?_ ?_); rotate_left
                  · simp only [Act.put, sqArv10_, sqBrv10_, sqCrv10_, i64_w, i32_w]
                    rfl
                  (refine pure_ (i := 32) (N := some 49) (v := undef) (a' := ?_) brv10_38_33 rfl rfl (any_of HT_.out (by kernel_rfl)) (fun _ _ _ h => h) (Or.inr ⟨by rfl, rfl⟩) ?_ ?_); rotate_left
                  · simp only [Act.put, sqArv10_, sqBrv10_, sqCrv10_, i64_w, i32_w]
                    rfl
                  (refine pure_ (i := 33) (N := some 50) (v := undef) (a' := ?_) brv10_38_34 rfl rfl (any_of HT_.out (by kernel_rfl)) (fun _ _ _ h => h) (Or.inr ⟨by rfl, rfl⟩) ?_ ?_); rotate_left
                  · simp only [Act.put, sqArv10_, sqBrv10_, sqCrv10_, i64_w, i32_w]
                    rfl
                  (refine pure_ (i := 34) (N := some 51) (v := undef) (a' := ?_) brv10_38_35 rfl rfl (any_of HT_.out (by kernel_rfl)) (fun _ _ _ h => h) (Or.inr ⟨by rfl, rfl⟩) ?_ ?_); rotate_left
                  · simp only [Act.put, sqArv10_, sqBrv10_, sqCrv10_, i64_w, i32_w]
                    rfl
                  (refine pure_ (i := 35) (N := some 52) (v := undef) (a' := ?_) brv10_38_36 rfl rfl (any_of HT_.out (by kernel_rfl)) (fun _ _ _ h => h) (Or.inr ⟨by rfl, rfl⟩) ?_ ?_); rotate_left
                  · simp only [Act.put, sqArv10_, sqBrv10_, sqCrv10_, i64_w, i32_w]
                    rfl
                  (refine pure_ (i := 36) (N := some 53) (v := ?_) (a' := ?_) brv10_38_37 rfl rfl (any_of HT_.out (by kernel_rfl)) (fun _ _ _ h => h) (Or.inl ⟨by rfl, ?_⟩) ?_ ?_); rotate_left
                  · intro w'
                    go_simp; with_reducible rfl
                  rotate_left
                  · simp only [Act.put, sqArv10_, sqBrv10_, sqCrv10_, i64_w, i32_w]
                    rfl
                  (refine pure_ (i := 37) (N := some 54) (v := ?_) (a' := ?_) brv10_38_38 rfl rfl (any_of HT_.out (by kernel_rfl)) (fun _ _ _ h => h) (Or.inl ⟨by rfl, ?_⟩) ?_ ?_); rotate_left
                  · intro w'
                    go_simp; with_reducible rfl
                  rotate_left
                  · simp only [Act.put, sqArv10_, sqBrv10_, sqCrv10_, i64_w, i32_w]
                    rfl
                  (refine done_ (done_of HT_.out (by kernel_rfl)) ?_); (try go_wp2); (go_roundg k1)
                  case measure => have := HK1.out; omega
                  case rel => (try simp only [← Nbq10.out]); exact ⟨(wrap64 (x5_1 + 1)), (by first | rfl | (simp; done) | (simp [*]; done)), H', ⟨by have := HK1.out; omega⟩, ⟨by repeat (first | (with_reducible first | exact HB.out | apply below_alloc | apply pw_below_drewN | apply below_drew1) | exact HB.out)⟩⟩
                · replace c11 := Bool.eq_false_iff.mpr c11
                  (subst c11); (have H1 : (if ((rd_T45 l1 x5_1).f0 = true) then (missivelaw20_alike.l0 k1 l0 l1 (wrap64 (x5_1 + 1))) else (if (!((false) == ((rd_T45 l1 x5_1).f0)) || (!((((rd_T45 l0 x5_1).f1).toList) == (((rd_T45 l1 x5_1).f1).toList)) || (!((((rd_T45 l0 x5_1).f2).toList) == (((rd_T45 l1 x5_1).f2).toList)) || (!((((rd_T45 l0 x5_1).f3).toList) == (((rd_T45 l1 x5_1).f3).toList)))))) = true then (some false) else (missivelaw20_alike.l0 k1 l0 l1 (wrap64 (x5_1 + 1))))) = some r := by rw [if_neg (show ¬ (false = true) by decide)] at H; exact H); clear H; (have H := H1); clear H1
                  obtain ⟨bq15, hbq15⟩ : ∃ b_ : Bool, b_ = ((rd_T45 l1 x5_1).f0) := ⟨_, rfl⟩
                  (replace H : (if (bq15 = true) then (missivelaw20_alike.l0 k1 l0 l1 (wrap64 (x5_1 + 1))) else (if (!((false) == (bq15)) || (!((((rd_T45 l0 x5_1).f1).toList) == (((rd_T45 l1 x5_1).f1).toList)) || (!((((rd_T45 l0 x5_1).f2).toList) == (((rd_T45 l1 x5_1).f2).toList)) || (!((((rd_T45 l0 x5_1).f3).toList) == (((rd_T45 l1 x5_1).f3).toList)))))) = true then (some false) else (missivelaw20_alike.l0 k1 l0 l1 (wrap64 (x5_1 + 1))))) = some r := by rw [← hbq15] at H; exact H); (have Nbq15 := Aside0.mk hbq15); clear hbq15
                  by_cases c16 : (bq15 = true)
                  · subst c16
                    (have H1 : (missivelaw20_alike.l0 k1 l0 l1 (wrap64 (x5_1 + 1))) = some r := by rw [if_pos rfl] at H; exact H); clear H; (have H := H1); clear H1; (have H' := Aside0.mk H); clear H; (try go_wp2); (have n0_ := Aside0.mk (below_drew1 HB.out)); clear HB; (have HB := n0_); clear n0_; (have p313 : 0 ≤ (x5_1 : Int) := of_decide_eq_true (by first | (with_reducible assumption) | assumption)); (have q313 : x5_1 < (l0.length : Int) := of_decide_eq_true (by first | (with_reducible assumption) | assumption))
                    obtain ⟨ad313, e313, hx313_0, hx313_1, hx313_2, hx313_3⟩ := at_T45 HR0.out x5_1 p313 q313
                    (have hw313_3 := hx313_3); (have hw313_2 := hx313_2); (have hw313_1 := hx313_1); (have hw313_0 := hx313_0); (try rw [← Nbq10.out] at hx313_0); (try rw [← Nbq10.out] at hw313_0); (try rw [← Nbq15.out] at hx313_0); (try rw [← Nbq15.out] at hw313_0)
                    cases e313
                    (replace hx313_0 := (HB.out.cell (World.block_lt_of_cell? w _ hx313_0)).trans hx313_0); (replace hx313_1 := (HB.out.cell (World.block_lt_of_cell? w _ hx313_1)).trans hx313_1); (replace hx313_2 := (HB.out.cell (World.block_lt_of_cell? w _ hx313_2)).trans hx313_2); (replace hx313_3 := (HB.out.cell (World.block_lt_of_cell? w _ hx313_3)).trans hx313_3); (replace p313 := eq_true p313); (replace q313 := eq_true q313); (have p315 : 0 ≤ (x5_1 : Int) := of_decide_eq_true (by first | (with_reducible assumption) | assumption)); (have q315 : x5_1 < (l1.length : Int) := of_decide_eq_true (by first | (with_reducible assumption) | assumption))
                    obtain ⟨ad315, e315, hx315_0, hx315_1, hx315_2, hx315_3⟩ := at_T45 HR1.out x5_1 p315 q315
                    (have hw315_3 := hx315_3); (have hw315_2 := hx315_2); (have hw315_1 := hx315_1); (have hw315_0 := hx315_0); (try rw [← Nbq10.out] at hx315_0); (try rw [← Nbq10.out] at hw315_0); (try rw [← Nbq15.out] at hx315_0); (try rw [← Nbq15.out] at hw315_0)
                    cases e315
                    (replace hx315_0 := (HB.out.cell (World.block_lt_of_cell? w _ hx315_0)).trans hx315_0); (replace hx315_1 := (HB.out.cell (World.block_lt_of_cell? w _ hx315_1)).trans hx315_1); (replace hx315_2 := (HB.out.cell (World.block_lt_of_cell? w _ hx315_2)).trans hx315_2); (replace hx315_3 := (HB.out.cell (World.block_lt_of_cell? w _ hx315_3)).trans hx315_3); (replace p315 := eq_true p315); (replace q315 := eq_true q315); (have p317 : 0 ≤ (x5_1 : Int) := of_decide_eq_true (by first | (with_reducible assumption) | assumption)); (have q317 : x5_1 < (l0.length : Int) := of_decide_eq_true (by first | (with_reducible assumption) | assumption))
                    obtain ⟨ad317, e317, hx317_0, hx317_1, hx317_2, hx317_3⟩ := at_T45 HR0.out x5_1 p317 q317
                    (have hw317_3 := hx317_3); (have hw317_2 := hx317_2); (have hw317_1 := hx317_1); (have hw317_0 := hx317_0); (try rw [← Nbq10.out] at hx317_0); (try rw [← Nbq10.out] at hw317_0); (try rw [← Nbq15.out] at hx317_0); (try rw [← Nbq15.out] at hw317_0)
                    obtain rfl : ad313 = ad317 := (by injection e317)
                    (replace hx317_0 := (HB.out.cell (World.block_lt_of_cell? w _ hx317_0)).trans hx317_0); (replace hx317_1 := (HB.out.cell (World.block_lt_of_cell? w _ hx317_1)).trans hx317_1); (replace hx317_2 := (HB.out.cell (World.block_lt_of_cell? w _ hx317_2)).trans hx317_2); (replace hx317_3 := (HB.out.cell (World.block_lt_of_cell? w _ hx317_3)).trans hx317_3); (replace p317 := eq_true p317); (replace q317 := eq_true q317); (have p318 : 0 ≤ (x5_1 : Int) := of_decide_eq_true (by first | (with_reducible assumption) | assumption)); (have q318 : x5_1 < (l1.length : Int) := of_decide_eq_true (by first | (with_reducible assumption) | assumption))
                    obtain ⟨ad318, e318, hx318_0, hx318_1, hx318_2, hx318_3⟩ := at_T45 HR1.out x5_1 p318 q318
                    (have hw318_3 := hx318_3); (have hw318_2 := hx318_2); (have hw318_1 := hx318_1); (have hw318_0 := hx318_0); (try rw [← Nbq10.out] at hx318_0); (try rw [← Nbq10.out] at hw318_0); (try rw [← Nbq15.out] at hx318_0); (try rw [← Nbq15.out] at hw318_0)
                    obtain rfl : ad315 = ad318 := (by injection e318)
                    (replace hx318_0 := (HB.out.cell (World.block_lt_of_cell? w _ hx318_0)).trans hx318_0); (replace hx318_1 := (HB.out.cell (World.block_lt_of_cell? w _ hx318_1)).trans hx318_1); (replace hx318_2 := (HB.out.cell (World.block_lt_of_cell? w _ hx318_2)).trans hx318_2); (replace hx318_3 := (HB.out.cell (World.block_lt_of_cell? w _ hx318_3)).trans hx318_3); (replace p318 := eq_true p318); (replace q318 := eq_true q318); (refine start_ (n := 38) (S := fun w' => w'.cell? (ad313.add ((x5_1).toNat * 4)) = some (.bool false) ∧ w'.cell? ⟨(ad313.add ((x5_1).toNat * 4)).block, (ad313.add ((x5_1).toNat * 4)).off + 1, none⟩ = some (.string ((rd_T45 l0 x5_1).f1)) ∧ w'.cell? ⟨(ad313.add ((x5_1).toNat * 4)).block, (ad313.add ((x5_1).toNat * 4)).off + 2, none⟩ = some (.string ((rd_T45 l0 x5_1).f2)) ∧ w'.cell? ⟨(ad313.add ((x5_1).toNat * 4)).block, (ad313.add ((x5_1).toNat * 4)).off + 3, none⟩ = some (.string ((rd_T45 l0 x5_1).f3)) ∧ w'.cell? (ad315.add ((x5_1).toNat * 4)) = some (.bool true) ∧ w'.cell? ⟨(ad315.add ((x5_1).toNat * 4)).block, (ad315.add ((x5_1).toNat * 4)).off + 1, none⟩ = some (.string ((rd_T45 l1 x5_1).f1)) ∧ w'.cell? ⟨(ad315.add ((x5_1).toNat * 4)).block, (ad315.add ((x5_1).toNat * 4)).off + 2, none⟩ = some (.string ((rd_T45 l1 x5_1).f2)) ∧ w'.cell? ⟨(ad315.add ((x5_1).toNat * 4)).block, (ad315.add ((x5_1).toNat * 4)).off + 3, none⟩ = some (.string ((rd_T45 l1 x5_1).f3)) ∧ w'.cell? (ad313.add ((x5_1).toNat * 4)) = some (.bool false) ∧ w'.cell? ⟨(ad313.add ((x5_1).toNat * 4)).block, (ad313.add ((x5_1).toNat * 4)).off + 1, none⟩ = some (.string ((rd_T45 l0 x5_1).f1)) ∧ w'.cell? ⟨(ad313.add ((x5_1).toNat * 4)).block, (ad313.add ((x5_1).toNat * 4)).off + 2, none⟩ = some (.string ((rd_T45 l0 x5_1).f2)) ∧ w'.cell? ⟨(ad313.add ((x5_1).toNat * 4)).block, (ad313.add ((x5_1).toNat * 4)).off + 3, none⟩ = some (.string ((rd_T45 l0 x5_1).f3)) ∧ w'.cell? (ad315.add ((x5_1).toNat * 4)) = some (.bool true) ∧ w'.cell? ⟨(ad315.add ((x5_1).toNat * 4)).block, (ad315.add ((x5_1).toNat * 4)).off + 1, none⟩ = some (.string ((rd_T45 l1 x5_1).f1)) ∧ w'.cell? ⟨(ad315.add ((x5_1).toNat * 4)).block, (ad315.add ((x5_1).toNat * 4)).off + 2, none⟩ = some (.string ((rd_T45 l1 x5_1).f2)) ∧ w'.cell? ⟨(ad315.add ((x5_1).toNat * 4)).block, (ad315.add ((x5_1).toNat * 4)).off + 3, none⟩ = some (.string ((rd_T45 l1 x5_1).f3))) (ds := []) brv10_38_0 (by kernel_rfl) rfl rfl ⟨((HB.out.cell (World.block_lt_of_cell? w _ hw313_0)).trans hw313_0), ((HB.out.cell (World.block_lt_of_cell? w _ hw313_1)).trans hw313_1), ((HB.out.cell (World.block_lt_of_cell? w _ hw313_2)).trans hw313_2), ((HB.out.cell (World.block_lt_of_cell? w _ hw313_3)).trans hw313_3), ((HB.out.cell (World.block_lt_of_cell? w _ hw315_0)).trans hw315_0), ((HB.out.cell (World.block_lt_of_cell? w _ hw315_1)).trans hw315_1), ((HB.out.cell (World.block_lt_of_cell? w _ hw315_2)).trans hw315_2), ((HB.out.cell (World.block_lt_of_cell? w _ hw315_3)).trans hw315_3), ((HB.out.cell (World.block_lt_of_cell? w _ hw317_0)).trans hw317_0), ((HB.out.cell (World.block_lt_of_cell? w _ hw317_1)).trans hw317_1), ((HB.out.cell (World.block_lt_of_cell? w _ hw317_2)).trans hw317_2), ((HB.out.cell (World.block_lt_of_cell? w _ hw317_3)).trans hw317_3), ((HB.out.cell (World.block_lt_of_cell? w _ hw318_0)).trans hw318_0), ((HB.out.cell (World.block_lt_of_cell? w _ hw318_1)).trans hw318_1), ((HB.out.cell (World.block_lt_of_cell? w _ hw318_2)).trans hw318_2), ((HB.out.cell (World.block_lt_of_cell? w _ hw318_3)).trans hw318_3)⟩ (fun hHeld => ?_); refine with_tabW missivelaw20_alike.tab6 missivelaw20_alike.bits6 (fun HT_ HW_ => ?_))
                    generalize wr.drew = w17 at HB hx313_0 hx313_1 hx313_2 hx313_3 hx315_0 hx315_1 hx315_2 hx315_3 hx317_0 hx317_1 hx317_2 hx317_3 hx318_0 hx318_1 hx318_2 hx318_3 hHeld ⊢
                    (refine pure_ (i := 0) (N := some 17) (v := ?_) (a' := ?_) brv10_38_1 rfl rfl (any_of HT_.out (by kernel_rfl)) (fun _ _ _ h => h) (Or.inl ⟨by rfl, ?_⟩) ?_ ?_); rotate_left
                    · intro w'
                      go_simp; with_reducible rfl
                    rotate_left
                    · simp only [Act.put, sqArv10_, sqBrv10_, sqCrv10_, i64_w, i32_w]
                      rfl
                    (refine pure_ (i := 1) (N := some 18) (v := ?_) (a' := ?_) brv10_38_2 rfl rfl (any_of HT_.out (by kernel_rfl)) (fun _ _ _ h => h) (Or.inl ⟨by rfl, ?_⟩) ?_ ?_); rotate_left
                    · intro w'
                      go_simp; with_reducible rfl
                    rotate_left
                    · simp only [Act.put, sqArv10_, sqBrv10_, sqCrv10_, i64_w, i32_w]
                      rfl
                    (refine pure_ (i := 2) (N := some 19) (v := ?_) (a' := ?_) brv10_38_3 rfl rfl (any_of HT_.out (by kernel_rfl)) (fun _ _ _ h => h) (Or.inl ⟨by rfl, ?_⟩) ?_ ?_); rotate_left
                    · intro w'
                      go_simp; with_reducible rfl
                    rotate_left
                    · simp only [Act.put, sqArv10_, sqBrv10_, sqCrv10_, i64_w, i32_w]
                      rfl
                    (refine pure_ (i := 5) (N := some 22) (v := ?_) (a' := ?_) brv10_38_x27 rfl rfl (any_of HT_.out (by kernel_rfl)) (fun _ _ _ h => h) (Or.inl ⟨by rfl, ?_⟩) ?_ ?_); rotate_left
                    · intro w'
                      go_simp; with_reducible rfl
                    rotate_left
                    · simp only [Act.put, sqArv10_, sqBrv10_, sqCrv10_, i64_w, i32_w]
                      rfl
                    (refine pure_ (i := 6) (N := some 23) (v := ?_) (a' := ?_) brv10_38_x67 rfl rfl (any_of HT_.out (by kernel_rfl)) (fun _ _ _ h => h) (Or.inl ⟨by rfl, ?_⟩) ?_ ?_); rotate_left
                    · intro w'
                      go_simp; with_reducible rfl
                    rotate_left
                    · simp only [Act.put, sqArv10_, sqBrv10_, sqCrv10_, i64_w, i32_w]
                      rfl
                    (refine pure_ (i := 7) (N := some 24) (v := ?_) (a' := ?_) brv10_38_xe7 rfl rfl (any_of HT_.out (by kernel_rfl)) (fun _ _ _ h => h) (Or.inl ⟨by rfl, ?_⟩) ?_ ?_); rotate_left
                    · intro w'
                      go_simp; with_reducible rfl
                    rotate_left
                    · simp only [Act.put, sqArv10_, sqBrv10_, sqCrv10_, i64_w, i32_w]
                      rfl
                    (refine take_ (i := 3) (N := some 20) (v := ?_) (a' := ?_) brv10_38_xef rfl rfl (take_ofW HT_.out HW_.out (by kernel_rfl)) (fun _ _ _ h => h) (Or.inl ⟨by rfl, ?_⟩) hHeld ?_ ?_); rotate_left
                    · rintro w' ⟨s0, s1, s2, s3, s4, s5, s6, s7, s8, s9, s10, s11, s12, s13, s14, s15⟩
                      go_simp; with_reducible rfl
                    rotate_left
                    · simp only [Act.put, sqArv10_, sqBrv10_, sqCrv10_, i64_w, i32_w]
                      rfl
                    (refine take_ (i := 8) (N := some 25) (v := ?_) (a' := ?_) brv10_38_x1ef rfl rfl (take_ofW HT_.out HW_.out (by kernel_rfl)) (fun _ _ _ h => h) (Or.inl ⟨by rfl, ?_⟩) hHeld ?_ ?_); rotate_left
                    · rintro w' ⟨s0, s1, s2, s3, s4, s5, s6, s7, s8, s9, s10, s11, s12, s13, s14, s15⟩
                      go_simp; with_reducible rfl
                    rotate_left
                    · simp only [Act.put, sqArv10_, sqBrv10_, sqCrv10_, i64_w, i32_w]
                      rfl
                    (refine one_ (i := 4) (N := some 21) brv10_38_9 rfl rfl (one_of HT_.out (by kernel_rfl)) (by decide) (fun K hK => ?_)); (refine goes_ Tryd.func67 (by kernel_rfl) rfl #[.agg #[.bool false, .string ((rd_T45 l0 x5_1).f1), .string ((rd_T45 l0 x5_1).f2), .string ((rd_T45 l0 x5_1).f3)]] (by rfl) rfl rfl (by (try simp only [List.map_toArray, List.map_cons, List.map_nil]); first | done | rfl | (simp only [List.length_drop, List.length_take]; rfl)) ?_); (with_reducible refine (missivelaw20_leaf.calls false ((rd_T45 l0 x5_1).f1) ((rd_T45 l0 x5_1).f2) ((rd_T45 l0 x5_1).f3) t314 _ (by first | ((repeat (first | exact HG_.out | apply GW.drewN | apply GW.drew | apply GW.alloc)); done) | exact GW.below HG_.out (by repeat (first | (with_reducible first | exact HB.out | apply below_alloc | apply pw_below_drewN | apply below_drew1) | exact HB.out))) (by have a_ := A6.out; (try simp only [← Nbq10.out, ← Nbq15.out] at a_); exact a_)).mono ?_); (rintro e w18 ⟨rfl, hb⟩); (refine ⟨_, rfl, ?_⟩); (have n0_ := Aside0.mk (below_step (by repeat (first | (with_reducible first | exact HB.out | apply below_alloc | apply pw_below_drewN | apply below_drew1) | exact HB.out)) hb)); clear HB; (have HB := n0_); clear n0_; (try clear hb); (try clear hb2); (try clear hk); (try clear hi); (refine hK.out _ _ ⟨((HB.out.cell (World.block_lt_of_cell? w _ hw313_0)).trans hw313_0), ((HB.out.cell (World.block_lt_of_cell? w _ hw313_1)).trans hw313_1), ((HB.out.cell (World.block_lt_of_cell? w _ hw313_2)).trans hw313_2), ((HB.out.cell (World.block_lt_of_cell? w _ hw313_3)).trans hw313_3), ((HB.out.cell (World.block_lt_of_cell? w _ hw315_0)).trans hw315_0), ((HB.out.cell (World.block_lt_of_cell? w _ hw315_1)).trans hw315_1), ((HB.out.cell (World.block_lt_of_cell? w _ hw315_2)).trans hw315_2), ((HB.out.cell (World.block_lt_of_cell? w _ hw315_3)).trans hw315_3), ((HB.out.cell (World.block_lt_of_cell? w _ hw317_0)).trans hw317_0), ((HB.out.cell (World.block_lt_of_cell? w _ hw317_1)).trans hw317_1), ((HB.out.cell (World.block_lt_of_cell? w _ hw317_2)).trans hw317_2), ((HB.out.cell (World.block_lt_of_cell? w _ hw317_3)).trans hw317_3), ((HB.out.cell (World.block_lt_of_cell? w _ hw318_0)).trans hw318_0), ((HB.out.cell (World.block_lt_of_cell? w _ hw318_1)).trans hw318_1), ((HB.out.cell (World.block_lt_of_cell? w _ hw318_2)).trans hw318_2), ((HB.out.cell (World.block_lt_of_cell? w _ hw318_3)).trans hw318_3)⟩ (fun hHeld => ?_)); clear hK K; (refine norm_ (a' := ?_) ?_ ?_); rotate_left
                    · show Act.put _ (some 21) _ = _
                      (simp only [Act.put, sqArv10_, sqBrv10_, sqCrv10_, i64_w, i32_w]); rfl
                    (refine one_ (i := 9) (N := some 26) brv10_38_10 rfl rfl (one_of HT_.out (by kernel_rfl)) (by decide) (fun K hK => ?_)); (refine goes_ Tryd.func67 (by kernel_rfl) rfl #[.agg #[.bool true, .string ((rd_T45 l1 x5_1).f1), .string ((rd_T45 l1 x5_1).f2), .string ((rd_T45 l1 x5_1).f3)]] (by rfl) rfl rfl (by (try simp only [List.map_toArray, List.map_cons, List.map_nil]); first | done | rfl | (simp only [List.length_drop, List.length_take]; rfl)) ?_); (with_reducible refine (missivelaw20_leaf.calls true ((rd_T45 l1 x5_1).f1) ((rd_T45 l1 x5_1).f2) ((rd_T45 l1 x5_1).f3) t316 _ (by first | ((repeat (first | exact HG_.out | apply GW.drewN | apply GW.drew | apply GW.alloc)); done) | exact GW.below HG_.out (by repeat (first | (with_reducible first | exact HB.out | apply below_alloc | apply pw_below_drewN | apply below_drew1) | exact HB.out))) (by have a_ := A8.out; (try simp only [← Nbq10.out, ← Nbq15.out] at a_); exact a_)).mono ?_); (rintro e w19 ⟨rfl, hb⟩); (refine ⟨_, rfl, ?_⟩); (have n0_ := Aside0.mk (below_step (by repeat (first | (with_reducible first | exact HB.out | apply below_alloc | apply pw_below_drewN | apply below_drew1) | exact HB.out)) hb)); clear HB; (have HB := n0_); clear n0_; (try clear hb); (try clear hb2); (try clear hk); (try clear hi); (refine hK.out _ _ ⟨((HB.out.cell (World.block_lt_of_cell? w _ hw313_0)).trans hw313_0), ((HB.out.cell (World.block_lt_of_cell? w _ hw313_1)).trans hw313_1), ((HB.out.cell (World.block_lt_of_cell? w _ hw313_2)).trans hw313_2), ((HB.out.cell (World.block_lt_of_cell? w _ hw313_3)).trans hw313_3), ((HB.out.cell (World.block_lt_of_cell? w _ hw315_0)).trans hw315_0), ((HB.out.cell (World.block_lt_of_cell? w _ hw315_1)).trans hw315_1), ((HB.out.cell (World.block_lt_of_cell? w _ hw315_2)).trans hw315_2), ((HB.out.cell (World.block_lt_of_cell? w _ hw315_3)).trans hw315_3), ((HB.out.cell (World.block_lt_of_cell? w _ hw317_0)).trans hw317_0), ((HB.out.cell (World.block_lt_of_cell? w _ hw317_1)).trans hw317_1), ((HB.out.cell (World.block_lt_of_cell? w _ hw317_2)).trans hw317_2), ((HB.out.cell (World.block_lt_of_cell? w _ hw317_3)).trans hw317_3), ((HB.out.cell (World.block_lt_of_cell? w _ hw318_0)).trans hw318_0), ((HB.out.cell (World.block_lt_of_cell? w _ hw318_1)).trans hw318_1), ((HB.out.cell (World.block_lt_of_cell? w _ hw318_2)).trans hw318_2), ((HB.out.cell (World.block_lt_of_cell? w _ hw318_3)).trans hw318_3)⟩ (fun hHeld => ?_)); clear hK K; (refine norm_ (a' := ?_) ?_ ?_); rotate_left
                    · show Act.put _ (some 26) _ = _
                      (simp only [Act.put, sqArv10_, sqBrv10_, sqCrv10_, i64_w, i32_w]); rfl
                    (refine pure_ (i := 10) (N := some 27) (v := ?_) (a' := ?_) brv10_38_11 rfl rfl (any_of HT_.out (by kernel_rfl)) (fun _ _ _ h => h) (Or.inl ⟨by rfl, ?_⟩) ?_ ?_); rotate_left
                    · intro w'
                      go_simp; with_reducible rfl
                    rotate_left
                    · simp only [Act.put, sqArv10_, sqBrv10_, sqCrv10_, i64_w, i32_w]
                      rfl
                    (refine pure_ (i := 11) (N := some 28) (v := ?_) (a' := ?_) brv10_38_12 rfl rfl (any_of HT_.out (by kernel_rfl)) (fun _ _ _ h => h) (Or.inl ⟨by rfl, ?_⟩) ?_ ?_); rotate_left
                    · intro w'
                      go_simp; with_reducible rfl
                    rotate_left
                    · simp only [Act.put, sqArv10_, sqBrv10_, sqCrv10_, i64_w, i32_w]
                      rfl
                    (refine pure_ (i := 12) (N := some 29) (v := ?_) (a' := ?_) brv10_38_13 rfl rfl (any_of HT_.out (by kernel_rfl)) (fun _ _ _ h => h) (Or.inl ⟨by rfl, ?_⟩) ?_ ?_); rotate_left
                    · intro w'
                      go_simp; with_reducible rfl
                    rotate_left
                    · simp only [Act.put, sqArv10_, sqBrv10_, sqCrv10_, i64_w, i32_w]
                      rfl
                    (refine pure_ (i := 13) (N := some 30) (v := ?_) (a' := ?_) brv10_38_14 rfl rfl (any_of HT_.out (by kernel_rfl)) (fun _ _ _ h => h) (Or.inl ⟨by rfl, ?_⟩) ?_ ?_); rotate_left
                    · intro w'
                      go_simp; with_reducible rfl
                    rotate_left
                    · simp only [Act.put, sqArv10_, sqBrv10_, sqCrv10_, i64_w, i32_w]
                      rfl
                    (refine pure_ (i := 14) (N := some 31) (v := ?_) (a' := ?_) brv10_38_15 rfl rfl (any_of HT_.out (by kernel_rfl)) (fun _ _ _ h => h) (Or.inl ⟨by rfl, ?_⟩) ?_ ?_); rotate_left
                    · intro w'
                      go_simp; with_reducible rfl
                    rotate_left
                    · simp only [Act.put, sqArv10_, sqBrv10_, sqCrv10_, i64_w, i32_w]
                      rfl
                    (refine pure_ (i := 15) (N := some 32) (v := ?_) (a' := ?_) brv10_38_16 rfl rfl (any_of HT_.out (by kernel_rfl)) (fun _ _ _ h => h) (Or.inl ⟨by rfl, ?_⟩) ?_ ?_); rotate_left
                    · intro w'
                      go_simp; with_reducible rfl
                    rotate_left
                    · simp only [Act.put, sqArv10_, sqBrv10_, sqCrv10_, i64_w, i32_w]
                      rfl
                    (refine take_ (i := 16) (N := some 33) (v := ?_) (a' := ?_) brv10_38_17 rfl rfl (take_ofW HT_.out HW_.out (by kernel_rfl)) (fun _ _ _ h => h) (Or.inl ⟨by rfl, ?_⟩) hHeld ?_ ?_); rotate_left
                    · rintro w' ⟨s0, s1, s2, s3, s4, s5, s6, s7, s8, s9, s10, s11, s12, s13, s14, s15⟩
                      go_simp; with_reducible rfl
                    rotate_left
                    · simp only [Act.put, sqArv10_, sqBrv10_, sqCrv10_, i64_w, i32_w]
                      rfl
                    (refine pure_ (i := 17) (N := some 34) (v := ?_) (a' := ?_) brv10_38_18 rfl rfl (any_of HT_.out (by kernel_rfl)) (fun _ _ _ h => h) (Or.inl ⟨by rfl, ?_⟩) ?_ ?_); rotate_left
                    · intro w'
                      go_simp; with_reducible rfl
                    rotate_left
                    · simp only [Act.put, sqArv10_, sqBrv10_, sqCrv10_, i64_w, i32_w]
                      rfl
                    (refine pure_ (i := 18) (N := some 35) (v := ?_) (a' := ?_) brv10_38_19 rfl rfl (any_of HT_.out (by kernel_rfl)) (fun _ _ _ h => h) (Or.inl ⟨by rfl, ?_⟩) ?_ ?_); rotate_left
                    · intro w'
                      go_simp; with_reducible rfl
                    rotate_left
                    · simp only [Act.put, sqArv10_, sqBrv10_, sqCrv10_, i64_w, i32_w]
                      rfl
                    (refine pure_ (i := 19) (N := some 36) (v := ?_) (a' := ?_) brv10_38_20 rfl rfl (any_of HT_.out (by kernel_rfl)) (fun _ _ _ h => h) (Or.inl ⟨by rfl, ?_⟩) ?_ ?_); rotate_left
                    · intro w'
                      go_simp; with_reducible rfl
                    rotate_left
                    · simp only [Act.put, sqArv10_, sqBrv10_, sqCrv10_, i64_w, i32_w]
                      rfl
                    (refine pure_ (i := 20) (N := some 37) (v := ?_) (a' := ?_) brv10_38_21 rfl rfl (any_of HT_.out (by kernel_rfl)) (fun _ _ _ h => h) (Or.inl ⟨by rfl, ?_⟩) ?_ ?_); rotate_left
                    · intro w'
                      go_simp; with_reducible rfl
                    rotate_left
                    · simp only [Act.put, sqArv10_, sqBrv10_, sqCrv10_, i64_w, i32_w]
                      rfl
                    (refine pure_ (i := 21) (N := some 38) (v := ?_) (a' := ?_) brv10_38_22 rfl rfl (any_of HT_.out (by kernel_rfl)) (fun _ _ _ h => h) (Or.inl ⟨by rfl, ?_⟩) ?_ ?_); rotate_left
                    · intro w'
                      go_simp; with_reducible rfl
                    rotate_left
                    · simp only [Act.put, sqArv10_, sqBrv10_, sqCrv10_, i64_w, i32_w]
                      rfl
                    (refine pure_ (i := 22) (N := some 39) (v := ?_) (a' := ?_) brv10_38_23 rfl rfl (any_of HT_.out (by kernel_rfl)) (fun _ _ _ h => h) (Or.inl ⟨by rfl, ?_⟩) ?_ ?_); rotate_left
                    · intro w'
                      go_simp; with_reducible rfl
                    rotate_left
                    · simp only [Act.put, sqArv10_, sqBrv10_, sqCrv10_, i64_w, i32_w]
                      rfl
                    (refine take_ (i := 23) (N := some 40) (v := ?_) (a' := ?_) brv10_38_24 rfl rfl (take_ofW HT_.out HW_.out (by kernel_rfl)) (fun _ _ _ h => h) (Or.inl ⟨by rfl, ?_⟩) hHeld ?_ ?_); rotate_left
                    · rintro w' ⟨s0, s1, s2, s3, s4, s5, s6, s7, s8, s9, s10, s11, s12, s13, s14, s15⟩
                      go_simp; with_reducible rfl
                    rotate_left
                    · simp only [Act.put, sqArv10_, sqBrv10_, sqCrv10_, i64_w, i32_w]
                      rfl
                    (refine pure_ (i := 24) (N := some 41) (v := ?_) (a' := ?_) brv10_38_25 rfl rfl (any_of HT_.out (by kernel_rfl)) (fun _ _ _ h => h) (Or.inl ⟨by rfl, ?_⟩) ?_ ?_); rotate_left
                    · intro w'
                      go_simp; with_reducible rfl
                    rotate_left
                    · simp only [Act.put, sqArv10_, sqBrv10_, sqCrv10_, i64_w, i32_w]
                      rfl
                    (refine pure_ (i := 25) (N := some 42) (v := ?_) (a' := ?_) brv10_38_26 rfl rfl (any_of HT_.out (by kernel_rfl)) (fun _ _ _ h => h) (Or.inl ⟨by rfl, ?_⟩) ?_ ?_); rotate_left
                    · intro w'
                      go_simp; with_reducible rfl
                    rotate_left
                    · simp only [Act.put, sqArv10_, sqBrv10_, sqCrv10_, i64_w, i32_w]
                      rfl
                    (refine pure_ (i := 26) (N := some 43) (v := ?_) (a' := ?_) brv10_38_27 rfl rfl (any_of HT_.out (by kernel_rfl)) (fun _ _ _ h => h) (Or.inl ⟨by rfl, ?_⟩) ?_ ?_); rotate_left
                    · intro w'
                      go_simp; with_reducible rfl
                    rotate_left
                    · simp only [Act.put, sqArv10_, sqBrv10_, sqCrv10_, i64_w, i32_w]
                      rfl
                    (refine pure_ (i := 27) (N := some 44) (v := undef) (a' := ?_) brv10_38_28 rfl rfl (any_of HT_.out (by kernel_rfl)) (fun _ _ _ h => h) (Or.inr ⟨by rfl, rfl⟩) ?_ ?_); rotate_left
                    · simp only [Act.put, sqArv10_, sqBrv10_, sqCrv10_, i64_w, i32_w]
                      rfl
                    (refine pure_ (i := 28) (N := some 45) (v := undef) (a' := ?_) brv10_38_29 rfl rfl (any_of HT_.out (by kernel_rfl)) (fun _ _ _ h => h) (Or.inr ⟨by rfl, rfl⟩) ?_ ?_); rotate_left
                    · simp only [Act.put, sqArv10_, sqBrv10_, sqCrv10_, i64_w, i32_w]
                      rfl
                    (refine pure_ (i := 29) (N := some 46) (v := undef) (a' := ?_) brv10_38_30 rfl rfl (any_of HT_.out (by kernel_rfl)) (fun _ _ _ h => h) (Or.inr ⟨by rfl, rfl⟩) ?_ ?_); rotate_left
                    · simp only [Act.put, sqArv10_, sqBrv10_, sqCrv10_, i64_w, i32_w]
                      rfl
                    (refine pure_ (i := 30) (N := some 47) (v := undef) (a' := ?_) brv10_38_31 rfl rfl (any_of HT_.out (by kernel_rfl)) (fun _ _ _ h => h) (Or.inr ⟨by rfl, rfl⟩) ?_ ?_); rotate_left
                    · simp only [Act.put, sqArv10_, sqBrv10_, sqCrv10_, i64_w, i32_w]
                      rfl
                    (refine pure_ (i := 31) (N := some 48) (v := undef) (a' := ?_) brv10_38_32 rfl rfl (any_of HT_.out (by kernel_rfl)) (fun _ _ _ h => h) (Or.inr ⟨by rfl, rfl⟩) ?_ ?_); rotate_left
                    · simp only [Act.put, sqArv10_, sqBrv10_, sqCrv10_, i64_w, i32_w]
                      rfl
                    (refine pure_ (i := 32) (N := some 49) (v := undef) (a' := ?_) brv10_38_33 rfl rfl (any_of HT_.out (by kernel_rfl)) (fun _ _ _ h => h) (Or.inr ⟨by rfl, rfl⟩) ?_ ?_); rotate_left
                    · simp only [Act.put, sqArv10_, sqBrv10_, sqCrv10_, i64_w, i32_w]
                      rfl
                    (refine pure_ (i := 33) (N := some 50) (v := undef) (a' := ?_) brv10_38_34 rfl rfl (any_of HT_.out (by kernel_rfl)) (fun _ _ _ h => h) (Or.inr ⟨by rfl, rfl⟩) ?_ ?_); rotate_left
                    · simp only [Act.put, sqArv10_, sqBrv10_, sqCrv10_, i64_w, i32_w]
                      rfl
                    (refine pure_ (i := 34) (N := some 51) (v := undef) (a' := ?_) brv10_38_35 rfl rfl (any_of HT_.out (by kernel_rfl)) (fun _ _ _ h => h) (Or.inr ⟨by rfl, rfl⟩) ?_ ?_); rotate_left
                    · simp only [Act.put, sqArv10_, sqBrv10_, sqCrv10_, i64_w, i32_w]
                      rfl
                    (refine pure_ (i := 35) (N := some 52) (v := undef) (a' := ?_) brv10_38_36 rfl rfl (any_of HT_.out (by kernel_rfl)) (fun _ _ _ h => h) (Or.inr ⟨by rfl, rfl⟩) ?_ ?_); rotate_left
                    · simp only [Act.put, sqArv10_, sqBrv10_, sqCrv10_, i64_w, i32_w]
                      rfl
                    (refine pure_ (i := 36) (N := some 53) (v := ?_) (a' := ?_) brv10_38_37 rfl rfl (any_of HT_.out (by kernel_rfl)) (fun _ _ _ h => h) (Or.inl ⟨by rfl, ?_⟩) ?_ ?_); rotate_left
                    · intro w'
                      go_simp; with_reducible rfl
                    rotate_left
                    · simp only [Act.put, sqArv10_, sqBrv10_, sqCrv10_, i64_w, i32_w]
                      rfl
                    (refine pure_ (i := 37) (N := some 54) (v := ?_) (a' := ?_) brv10_38_38 rfl rfl (any_of HT_.out (by kernel_rfl)) (fun _ _ _ h => h) (Or.inl ⟨by rfl, ?_⟩) ?_ ?_); rotate_left
                    · intro w'
                      go_simp; with_reducible rfl
                    rotate_left
                    · simp only [Act.put, sqArv10_, sqBrv10_, sqCrv10_, i64_w, i32_w]
                      rfl
                    (refine done_ (done_of HT_.out (by kernel_rfl)) ?_); (try go_wp2); (go_roundg k1)
                    case measure => have := HK1.out; omega
                    case rel => (try simp only [← Nbq10.out]); (try simp only [← Nbq15.out]); exact ⟨(wrap64 (x5_1 + 1)), (by first | rfl | (simp; done) | (simp [*]; done)), H', ⟨by have := HK1.out; omega⟩, ⟨by repeat (first | (with_reducible first | exact HB.out | apply below_alloc | apply pw_below_drewN | apply below_drew1) | exact HB.out)⟩⟩
                  · replace c16 := Bool.eq_false_iff.mpr c16
                    (subst c16); (have H1 : (if (!((false) == (false)) || (!((((rd_T45 l0 x5_1).f1).toList) == (((rd_T45 l1 x5_1).f1).toList)) || (!((((rd_T45 l0 x5_1).f2).toList) == (((rd_T45 l1 x5_1).f2).toList)) || (!((((rd_T45 l0 x5_1).f3).toList) == (((rd_T45 l1 x5_1).f3).toList)))))) = true then (some false) else (missivelaw20_alike.l0 k1 l0 l1 (wrap64 (x5_1 + 1)))) = some r := by rw [if_neg (show ¬ (false = true) by decide)] at H; exact H); clear H; (have H := H1); clear H1
                    by_cases c20 : (!((false) == (false)) || (!((((rd_T45 l0 x5_1).f1).toList) == (((rd_T45 l1 x5_1).f1).toList)) || (!((((rd_T45 l0 x5_1).f2).toList) == (((rd_T45 l1 x5_1).f2).toList)) || (!((((rd_T45 l0 x5_1).f3).toList) == (((rd_T45 l1 x5_1).f3).toList)))))) = true
                    · rw [if_pos c20] at H
                      (have c20b0 : (!((false) == (false)) || (!((((rd_T45 l0 x5_1).f1).toList) == (((rd_T45 l1 x5_1).f1).toList)) || (!((((rd_T45 l0 x5_1).f2).toList) == (((rd_T45 l1 x5_1).f2).toList)) || (!((((rd_T45 l0 x5_1).f3).toList) == (((rd_T45 l1 x5_1).f3).toList)))))) = true := c20); (try (have c20x := c20b0; simp only [beq_self_eq_true, Bool.not_true, Bool.false_or] at c20x)); clear c20
                      obtain rfl := Option.some.inj H
                      (try go_wp2); (have n0_ := Aside0.mk (below_drew1 HB.out)); clear HB; (have HB := n0_); clear n0_; (have p313 : 0 ≤ (x5_1 : Int) := of_decide_eq_true (by first | (with_reducible assumption) | assumption)); (have q313 : x5_1 < (l0.length : Int) := of_decide_eq_true (by first | (with_reducible assumption) | assumption))
                      obtain ⟨ad313, e313, hx313_0, hx313_1, hx313_2, hx313_3⟩ := at_T45 HR0.out x5_1 p313 q313
                      (have hw313_3 := hx313_3); (have hw313_2 := hx313_2); (have hw313_1 := hx313_1); (have hw313_0 := hx313_0); (try rw [← Nbq10.out] at hx313_0); (try rw [← Nbq10.out] at hw313_0); (try rw [← Nbq15.out] at hx313_0); (try rw [← Nbq15.out] at hw313_0)
                      cases e313
                      (replace hx313_0 := (HB.out.cell (World.block_lt_of_cell? w _ hx313_0)).trans hx313_0); (replace hx313_1 := (HB.out.cell (World.block_lt_of_cell? w _ hx313_1)).trans hx313_1); (replace hx313_2 := (HB.out.cell (World.block_lt_of_cell? w _ hx313_2)).trans hx313_2); (replace hx313_3 := (HB.out.cell (World.block_lt_of_cell? w _ hx313_3)).trans hx313_3); (replace p313 := eq_true p313); (replace q313 := eq_true q313); (have p315 : 0 ≤ (x5_1 : Int) := of_decide_eq_true (by first | (with_reducible assumption) | assumption)); (have q315 : x5_1 < (l1.length : Int) := of_decide_eq_true (by first | (with_reducible assumption) | assumption))
                      obtain ⟨ad315, e315, hx315_0, hx315_1, hx315_2, hx315_3⟩ := at_T45 HR1.out x5_1 p315 q315
                      (have hw315_3 := hx315_3); (have hw315_2 := hx315_2); (have hw315_1 := hx315_1); (have hw315_0 := hx315_0); (try rw [← Nbq10.out] at hx315_0); (try rw [← Nbq10.out] at hw315_0); (try rw [← Nbq15.out] at hx315_0); (try rw [← Nbq15.out] at hw315_0)
                      cases e315
                      (replace hx315_0 := (HB.out.cell (World.block_lt_of_cell? w _ hx315_0)).trans hx315_0); (replace hx315_1 := (HB.out.cell (World.block_lt_of_cell? w _ hx315_1)).trans hx315_1); (replace hx315_2 := (HB.out.cell (World.block_lt_of_cell? w _ hx315_2)).trans hx315_2); (replace hx315_3 := (HB.out.cell (World.block_lt_of_cell? w _ hx315_3)).trans hx315_3); (replace p315 := eq_true p315); (replace q315 := eq_true q315); (have p317 : 0 ≤ (x5_1 : Int) := of_decide_eq_true (by first | (with_reducible assumption) | assumption)); (have q317 : x5_1 < (l0.length : Int) := of_decide_eq_true (by first | (with_reducible assumption) | assumption))
                      obtain ⟨ad317, e317, hx317_0, hx317_1, hx317_2, hx317_3⟩ := at_T45 HR0.out x5_1 p317 q317
                      (have hw317_3 := hx317_3); (have hw317_2 := hx317_2); (have hw317_1 := hx317_1); (have hw317_0 := hx317_0); (try rw [← Nbq10.out] at hx317_0); (try rw [← Nbq10.out] at hw317_0); (try rw [← Nbq15.out] at hx317_0); (try rw [← Nbq15.out] at hw317_0)
                      obtain rfl : ad313 = ad317 := (by injection e317)
                      (replace hx317_0 := (HB.out.cell (World.block_lt_of_cell? w _ hx317_0)).trans hx317_0); (replace hx317_1 := (HB.out.cell (World.block_lt_of_cell? w _ hx317_1)).trans hx317_1); (replace hx317_2 := (HB.out.cell (World.block_lt_of_cell? w _ hx317_2)).trans hx317_2); (replace hx317_3 := (HB.out.cell (World.block_lt_of_cell? w _ hx317_3)).trans hx317_3); (replace p317 := eq_true p317); (replace q317 := eq_true q317); (have p318 : 0 ≤ (x5_1 : Int) := of_decide_eq_true (by first | (with_reducible assumption) | assumption)); (have q318 : x5_1 < (l1.length : Int) := of_decide_eq_true (by first | (with_reducible assumption) | assumption))
                      obtain ⟨ad318, e318, hx318_0, hx318_1, hx318_2, hx318_3⟩ := at_T45 HR1.out x5_1 p318 q318
                      (have hw318_3 := hx318_3); (have hw318_2 := hx318_2); (have hw318_1 := hx318_1); (have hw318_0 := hx318_0); (try rw [← Nbq10.out] at hx318_0); (try rw [← Nbq10.out] at hw318_0); (try rw [← Nbq15.out] at hx318_0); (try rw [← Nbq15.out] at hw318_0)
                      obtain rfl : ad315 = ad318 := (by injection e318)
                      (replace hx318_0 := (HB.out.cell (World.block_lt_of_cell? w _ hx318_0)).trans hx318_0); (replace hx318_1 := (HB.out.cell (World.block_lt_of_cell? w _ hx318_1)).trans hx318_1); (replace hx318_2 := (HB.out.cell (World.block_lt_of_cell? w _ hx318_2)).trans hx318_2); (replace hx318_3 := (HB.out.cell (World.block_lt_of_cell? w _ hx318_3)).trans hx318_3); (replace p318 := eq_true p318); (replace q318 := eq_true q318); (have p319 : 0 ≤ (x5_1 : Int) := of_decide_eq_true (by first | (with_reducible assumption) | assumption)); (have q319 : x5_1 < (l0.length : Int) := of_decide_eq_true (by first | (with_reducible assumption) | assumption))
                      obtain ⟨ad319, e319, hx319_0, hx319_1, hx319_2, hx319_3⟩ := at_T45 HR0.out x5_1 p319 q319
                      (have hw319_3 := hx319_3); (have hw319_2 := hx319_2); (have hw319_1 := hx319_1); (have hw319_0 := hx319_0); (try rw [← Nbq10.out] at hx319_0); (try rw [← Nbq10.out] at hw319_0); (try rw [← Nbq15.out] at hx319_0); (try rw [← Nbq15.out] at hw319_0)
                      obtain rfl : ad313 = ad319 := (by injection e319)
                      (replace hx319_0 := (HB.out.cell (World.block_lt_of_cell? w _ hx319_0)).trans hx319_0); (replace hx319_1 := (HB.out.cell (World.block_lt_of_cell? w _ hx319_1)).trans hx319_1); (replace hx319_2 := (HB.out.cell (World.block_lt_of_cell? w _ hx319_2)).trans hx319_2); (replace hx319_3 := (HB.out.cell (World.block_lt_of_cell? w _ hx319_3)).trans hx319_3); (replace p319 := eq_true p319); (replace q319 := eq_true q319); (have p320 : 0 ≤ (x5_1 : Int) := of_decide_eq_true (by first | (with_reducible assumption) | assumption)); (have q320 : x5_1 < (l1.length : Int) := of_decide_eq_true (by first | (with_reducible assumption) | assumption))
                      obtain ⟨ad320, e320, hx320_0, hx320_1, hx320_2, hx320_3⟩ := at_T45 HR1.out x5_1 p320 q320
                      (have hw320_3 := hx320_3); (have hw320_2 := hx320_2); (have hw320_1 := hx320_1); (have hw320_0 := hx320_0); (try rw [← Nbq10.out] at hx320_0); (try rw [← Nbq10.out] at hw320_0); (try rw [← Nbq15.out] at hx320_0); (try rw [← Nbq15.out] at hw320_0)
                      obtain rfl : ad315 = ad320 := (by injection e320)
                      (replace hx320_0 := (HB.out.cell (World.block_lt_of_cell? w _ hx320_0)).trans hx320_0); (replace hx320_1 := (HB.out.cell (World.block_lt_of_cell? w _ hx320_1)).trans hx320_1); (replace hx320_2 := (HB.out.cell (World.block_lt_of_cell? w _ hx320_2)).trans hx320_2); (replace hx320_3 := (HB.out.cell (World.block_lt_of_cell? w _ hx320_3)).trans hx320_3); (replace p320 := eq_true p320); (replace q320 := eq_true q320); (refine start_ (n := 38) (S := fun w' => w'.cell? (ad313.add ((x5_1).toNat * 4)) = some (.bool false) ∧ w'.cell? ⟨(ad313.add ((x5_1).toNat * 4)).block, (ad313.add ((x5_1).toNat * 4)).off + 1, none⟩ = some (.string ((rd_T45 l0 x5_1).f1)) ∧ w'.cell? ⟨(ad313.add ((x5_1).toNat * 4)).block, (ad313.add ((x5_1).toNat * 4)).off + 2, none⟩ = some (.string ((rd_T45 l0 x5_1).f2)) ∧ w'.cell? ⟨(ad313.add ((x5_1).toNat * 4)).block, (ad313.add ((x5_1).toNat * 4)).off + 3, none⟩ = some (.string ((rd_T45 l0 x5_1).f3)) ∧ w'.cell? (ad315.add ((x5_1).toNat * 4)) = some (.bool false) ∧ w'.cell? ⟨(ad315.add ((x5_1).toNat * 4)).block, (ad315.add ((x5_1).toNat * 4)).off + 1, none⟩ = some (.string ((rd_T45 l1 x5_1).f1)) ∧ w'.cell? ⟨(ad315.add ((x5_1).toNat * 4)).block, (ad315.add ((x5_1).toNat * 4)).off + 2, none⟩ = some (.string ((rd_T45 l1 x5_1).f2)) ∧ w'.cell? ⟨(ad315.add ((x5_1).toNat * 4)).block, (ad315.add ((x5_1).toNat * 4)).off + 3, none⟩ = some (.string ((rd_T45 l1 x5_1).f3)) ∧ w'.cell? (ad313.add ((x5_1).toNat * 4)) = some (.bool false) ∧ w'.cell? ⟨(ad313.add ((x5_1).toNat * 4)).block, (ad313.add ((x5_1).toNat * 4)).off + 1, none⟩ = some (.string ((rd_T45 l0 x5_1).f1)) ∧ w'.cell? ⟨(ad313.add ((x5_1).toNat * 4)).block, (ad313.add ((x5_1).toNat * 4)).off + 2, none⟩ = some (.string ((rd_T45 l0 x5_1).f2)) ∧ w'.cell? ⟨(ad313.add ((x5_1).toNat * 4)).block, (ad313.add ((x5_1).toNat * 4)).off + 3, none⟩ = some (.string ((rd_T45 l0 x5_1).f3)) ∧ w'.cell? (ad315.add ((x5_1).toNat * 4)) = some (.bool false) ∧ w'.cell? ⟨(ad315.add ((x5_1).toNat * 4)).block, (ad315.add ((x5_1).toNat * 4)).off + 1, none⟩ = some (.string ((rd_T45 l1 x5_1).f1)) ∧ w'.cell? ⟨(ad315.add ((x5_1).toNat * 4)).block, (ad315.add ((x5_1).toNat * 4)).off + 2, none⟩ = some (.string ((rd_T45 l1 x5_1).f2)) ∧ w'.cell? ⟨(ad315.add ((x5_1).toNat * 4)).block, (ad315.add ((x5_1).toNat * 4)).off + 3, none⟩ = some (.string ((rd_T45 l1 x5_1).f3)) ∧ w'.cell? (ad313.add ((x5_1).toNat * 4)) = some (.bool (false)) ∧ w'.cell? ⟨(ad313.add ((x5_1).toNat * 4)).block, (ad313.add ((x5_1).toNat * 4)).off + 1, none⟩ = some (.string ((rd_T45 l0 x5_1).f1)) ∧ w'.cell? ⟨(ad313.add ((x5_1).toNat * 4)).block, (ad313.add ((x5_1).toNat * 4)).off + 2, none⟩ = some (.string ((rd_T45 l0 x5_1).f2)) ∧ w'.cell? ⟨(ad313.add ((x5_1).toNat * 4)).block, (ad313.add ((x5_1).toNat * 4)).off + 3, none⟩ = some (.string ((rd_T45 l0 x5_1).f3)) ∧ w'.cell? (ad315.add ((x5_1).toNat * 4)) = some (.bool (false)) ∧ w'.cell? ⟨(ad315.add ((x5_1).toNat * 4)).block, (ad315.add ((x5_1).toNat * 4)).off + 1, none⟩ = some (.string ((rd_T45 l1 x5_1).f1)) ∧ w'.cell? ⟨(ad315.add ((x5_1).toNat * 4)).block, (ad315.add ((x5_1).toNat * 4)).off + 2, none⟩ = some (.string ((rd_T45 l1 x5_1).f2)) ∧ w'.cell? ⟨(ad315.add ((x5_1).toNat * 4)).block, (ad315.add ((x5_1).toNat * 4)).off + 3, none⟩ = some (.string ((rd_T45 l1 x5_1).f3))) (ds := []) brv10_38_0 (by kernel_rfl) rfl rfl ⟨((HB.out.cell (World.block_lt_of_cell? w _ hw313_0)).trans hw313_0), ((HB.out.cell (World.block_lt_of_cell? w _ hw313_1)).trans hw313_1), ((HB.out.cell (World.block_lt_of_cell? w _ hw313_2)).trans hw313_2), ((HB.out.cell (World.block_lt_of_cell? w _ hw313_3)).trans hw313_3), ((HB.out.cell (World.block_lt_of_cell? w _ hw315_0)).trans hw315_0), ((HB.out.cell (World.block_lt_of_cell? w _ hw315_1)).trans hw315_1), ((HB.out.cell (World.block_lt_of_cell? w _ hw315_2)).trans hw315_2), ((HB.out.cell (World.block_lt_of_cell? w _ hw315_3)).trans hw315_3), ((HB.out.cell (World.block_lt_of_cell? w _ hw317_0)).trans hw317_0), ((HB.out.cell (World.block_lt_of_cell? w _ hw317_1)).trans hw317_1), ((HB.out.cell (World.block_lt_of_cell? w _ hw317_2)).trans hw317_2), ((HB.out.cell (World.block_lt_of_cell? w _ hw317_3)).trans hw317_3), ((HB.out.cell (World.block_lt_of_cell? w _ hw318_0)).trans hw318_0), ((HB.out.cell (World.block_lt_of_cell? w _ hw318_1)).trans hw318_1), ((HB.out.cell (World.block_lt_of_cell? w _ hw318_2)).trans hw318_2), ((HB.out.cell (World.block_lt_of_cell? w _ hw318_3)).trans hw318_3), ((HB.out.cell (World.block_lt_of_cell? w _ hw319_0)).trans hw319_0), ((HB.out.cell (World.block_lt_of_cell? w _ hw319_1)).trans hw319_1), ((HB.out.cell (World.block_lt_of_cell? w _ hw319_2)).trans hw319_2), ((HB.out.cell (World.block_lt_of_cell? w _ hw319_3)).trans hw319_3), ((HB.out.cell (World.block_lt_of_cell? w _ hw320_0)).trans hw320_0), ((HB.out.cell (World.block_lt_of_cell? w _ hw320_1)).trans hw320_1), ((HB.out.cell (World.block_lt_of_cell? w _ hw320_2)).trans hw320_2), ((HB.out.cell (World.block_lt_of_cell? w _ hw320_3)).trans hw320_3)⟩ (fun hHeld => ?_); refine with_tabW missivelaw20_alike.tab6 missivelaw20_alike.bits6 (fun HT_ HW_ => ?_))
                      generalize wr.drew = w21 at HB hx313_0 hx313_1 hx313_2 hx313_3 hx315_0 hx315_1 hx315_2 hx315_3 hx317_0 hx317_1 hx317_2 hx317_3 hx318_0 hx318_1 hx318_2 hx318_3 hx319_0 hx319_1 hx319_2 hx319_3 hx320_0 hx320_1 hx320_2 hx320_3 hHeld ⊢
                      (refine pure_ (i := 0) (N := some 17) (v := ?_) (a' := ?_) brv10_38_1 rfl rfl (any_of HT_.out (by kernel_rfl)) (fun _ _ _ h => h) (Or.inl ⟨by rfl, ?_⟩) ?_ ?_); rotate_left
                      · intro w'
                        go_simp; with_reducible rfl
                      rotate_left
                      · simp only [Act.put, sqArv10_, sqBrv10_, sqCrv10_, i64_w, i32_w]
                        rfl
                      (refine pure_ (i := 1) (N := some 18) (v := ?_) (a' := ?_) brv10_38_2 rfl rfl (any_of HT_.out (by kernel_rfl)) (fun _ _ _ h => h) (Or.inl ⟨by rfl, ?_⟩) ?_ ?_); rotate_left
                      · intro w'
                        go_simp; with_reducible rfl
                      rotate_left
                      · simp only [Act.put, sqArv10_, sqBrv10_, sqCrv10_, i64_w, i32_w]
                        rfl
                      (refine pure_ (i := 2) (N := some 19) (v := ?_) (a' := ?_) brv10_38_3 rfl rfl (any_of HT_.out (by kernel_rfl)) (fun _ _ _ h => h) (Or.inl ⟨by rfl, ?_⟩) ?_ ?_); rotate_left
                      · intro w'
                        go_simp; with_reducible rfl
                      rotate_left
                      · simp only [Act.put, sqArv10_, sqBrv10_, sqCrv10_, i64_w, i32_w]
                        rfl
                      (refine pure_ (i := 5) (N := some 22) (v := ?_) (a' := ?_) brv10_38_x27 rfl rfl (any_of HT_.out (by kernel_rfl)) (fun _ _ _ h => h) (Or.inl ⟨by rfl, ?_⟩) ?_ ?_); rotate_left
                      · intro w'
                        go_simp; with_reducible rfl
                      rotate_left
                      · simp only [Act.put, sqArv10_, sqBrv10_, sqCrv10_, i64_w, i32_w]
                        rfl
                      (refine pure_ (i := 6) (N := some 23) (v := ?_) (a' := ?_) brv10_38_x67 rfl rfl (any_of HT_.out (by kernel_rfl)) (fun _ _ _ h => h) (Or.inl ⟨by rfl, ?_⟩) ?_ ?_); rotate_left
                      · intro w'
                        go_simp; with_reducible rfl
                      rotate_left
                      · simp only [Act.put, sqArv10_, sqBrv10_, sqCrv10_, i64_w, i32_w]
                        rfl
                      (refine pure_ (i := 7) (N := some 24) (v := ?_) (a' := ?_) brv10_38_xe7 rfl rfl (any_of HT_.out (by kernel_rfl)) (fun _ _ _ h => h) (Or.inl ⟨by rfl, ?_⟩) ?_ ?_); rotate_left
                      · intro w'
                        go_simp; with_reducible rfl
                      rotate_left
                      · simp only [Act.put, sqArv10_, sqBrv10_, sqCrv10_, i64_w, i32_w]
                        rfl
                      (refine take_ (i := 3) (N := some 20) (v := ?_) (a' := ?_) brv10_38_xef rfl rfl (take_ofW HT_.out HW_.out (by kernel_rfl)) (fun _ _ _ h => h) (Or.inl ⟨by rfl, ?_⟩) hHeld ?_ ?_); rotate_left
                      · rintro w' ⟨s0, s1, s2, s3, s4, s5, s6, s7, s8, s9, s10, s11, s12, s13, s14, s15, s16, s17, s18, s19, s20, s21, s22, s23⟩
                        go_simp; with_reducible rfl
                      rotate_left
                      · simp only [Act.put, sqArv10_, sqBrv10_, sqCrv10_, i64_w, i32_w]
                        rfl
                      (refine take_ (i := 8) (N := some 25) (v := ?_) (a' := ?_) brv10_38_x1ef rfl rfl (take_ofW HT_.out HW_.out (by kernel_rfl)) (fun _ _ _ h => h) (Or.inl ⟨by rfl, ?_⟩) hHeld ?_ ?_); rotate_left
                      · rintro w' ⟨s0, s1, s2, s3, s4, s5, s6, s7, s8, s9, s10, s11, s12, s13, s14, s15, s16, s17, s18, s19, s20, s21, s22, s23⟩
                        go_simp; with_reducible rfl
                      rotate_left
                      · simp only [Act.put, sqArv10_, sqBrv10_, sqCrv10_, i64_w, i32_w]
                        rfl
                      (refine one_ (i := 4) (N := some 21) brv10_38_9 rfl rfl (one_of HT_.out (by kernel_rfl)) (by decide) (fun K hK => ?_)); (refine goes_ Tryd.func67 (by kernel_rfl) rfl #[.agg #[.bool false, .string ((rd_T45 l0 x5_1).f1), .string ((rd_T45 l0 x5_1).f2), .string ((rd_T45 l0 x5_1).f3)]] (by rfl) rfl rfl (by (try simp only [List.map_toArray, List.map_cons, List.map_nil]); first | done | rfl | (simp only [List.length_drop, List.length_take]; rfl)) ?_); (with_reducible refine (missivelaw20_leaf.calls false ((rd_T45 l0 x5_1).f1) ((rd_T45 l0 x5_1).f2) ((rd_T45 l0 x5_1).f3) t314 _ (by first | ((repeat (first | exact HG_.out | apply GW.drewN | apply GW.drew | apply GW.alloc)); done) | exact GW.below HG_.out (by repeat (first | (with_reducible first | exact HB.out | apply below_alloc | apply pw_below_drewN | apply below_drew1) | exact HB.out))) (by have a_ := A6.out; (try simp only [← Nbq10.out, ← Nbq15.out] at a_); exact a_)).mono ?_); (rintro e w22 ⟨rfl, hb⟩); (refine ⟨_, rfl, ?_⟩); (have n0_ := Aside0.mk (below_step (by repeat (first | (with_reducible first | exact HB.out | apply below_alloc | apply pw_below_drewN | apply below_drew1) | exact HB.out)) hb)); clear HB; (have HB := n0_); clear n0_; (try clear hb); (try clear hb2); (try clear hk); (try clear hi); (refine hK.out _ _ ⟨((HB.out.cell (World.block_lt_of_cell? w _ hw313_0)).trans hw313_0), ((HB.out.cell (World.block_lt_of_cell? w _ hw313_1)).trans hw313_1), ((HB.out.cell (World.block_lt_of_cell? w _ hw313_2)).trans hw313_2), ((HB.out.cell (World.block_lt_of_cell? w _ hw313_3)).trans hw313_3), ((HB.out.cell (World.block_lt_of_cell? w _ hw315_0)).trans hw315_0), ((HB.out.cell (World.block_lt_of_cell? w _ hw315_1)).trans hw315_1), ((HB.out.cell (World.block_lt_of_cell? w _ hw315_2)).trans hw315_2), ((HB.out.cell (World.block_lt_of_cell? w _ hw315_3)).trans hw315_3), ((HB.out.cell (World.block_lt_of_cell? w _ hw317_0)).trans hw317_0), ((HB.out.cell (World.block_lt_of_cell? w _ hw317_1)).trans hw317_1), ((HB.out.cell (World.block_lt_of_cell? w _ hw317_2)).trans hw317_2), ((HB.out.cell (World.block_lt_of_cell? w _ hw317_3)).trans hw317_3), ((HB.out.cell (World.block_lt_of_cell? w _ hw318_0)).trans hw318_0), ((HB.out.cell (World.block_lt_of_cell? w _ hw318_1)).trans hw318_1), ((HB.out.cell (World.block_lt_of_cell? w _ hw318_2)).trans hw318_2), ((HB.out.cell (World.block_lt_of_cell? w _ hw318_3)).trans hw318_3), ((HB.out.cell (World.block_lt_of_cell? w _ hw319_0)).trans hw319_0), ((HB.out.cell (World.block_lt_of_cell? w _ hw319_1)).trans hw319_1), ((HB.out.cell (World.block_lt_of_cell? w _ hw319_2)).trans hw319_2), ((HB.out.cell (World.block_lt_of_cell? w _ hw319_3)).trans hw319_3), ((HB.out.cell (World.block_lt_of_cell? w _ hw320_0)).trans hw320_0), ((HB.out.cell (World.block_lt_of_cell? w _ hw320_1)).trans hw320_1), ((HB.out.cell (World.block_lt_of_cell? w _ hw320_2)).trans hw320_2), ((HB.out.cell (World.block_lt_of_cell? w _ hw320_3)).trans hw320_3)⟩ (fun hHeld => ?_)); clear hK K; (refine norm_ (a' := ?_) ?_ ?_); rotate_left
                      · show Act.put _ (some 21) _ = _
                        (simp only [Act.put, sqArv10_, sqBrv10_, sqCrv10_, i64_w, i32_w]); rfl
                      (refine one_ (i := 9) (N := some 26) brv10_38_10 rfl rfl (one_of HT_.out (by kernel_rfl)) (by decide) (fun K hK => ?_)); (refine goes_ Tryd.func67 (by kernel_rfl) rfl #[.agg #[.bool false, .string ((rd_T45 l1 x5_1).f1), .string ((rd_T45 l1 x5_1).f2), .string ((rd_T45 l1 x5_1).f3)]] (by rfl) rfl rfl (by (try simp only [List.map_toArray, List.map_cons, List.map_nil]); first | done | rfl | (simp only [List.length_drop, List.length_take]; rfl)) ?_); (with_reducible refine (missivelaw20_leaf.calls false ((rd_T45 l1 x5_1).f1) ((rd_T45 l1 x5_1).f2) ((rd_T45 l1 x5_1).f3) t316 _ (by first | ((repeat (first | exact HG_.out | apply GW.drewN | apply GW.drew | apply GW.alloc)); done) | exact GW.below HG_.out (by repeat (first | (with_reducible first | exact HB.out | apply below_alloc | apply pw_below_drewN | apply below_drew1) | exact HB.out))) (by have a_ := A8.out; (try simp only [← Nbq10.out, ← Nbq15.out] at a_); exact a_)).mono ?_); (rintro e w23 ⟨rfl, hb⟩); (refine ⟨_, rfl, ?_⟩); (have n0_ := Aside0.mk (below_step (by repeat (first | (with_reducible first | exact HB.out | apply below_alloc | apply pw_below_drewN | apply below_drew1) | exact HB.out)) hb)); clear HB; (have HB := n0_); clear n0_; (try clear hb); (try clear hb2); (try clear hk); (try clear hi); (refine hK.out _ _ ⟨((HB.out.cell (World.block_lt_of_cell? w _ hw313_0)).trans hw313_0), ((HB.out.cell (World.block_lt_of_cell? w _ hw313_1)).trans hw313_1), ((HB.out.cell (World.block_lt_of_cell? w _ hw313_2)).trans hw313_2), ((HB.out.cell (World.block_lt_of_cell? w _ hw313_3)).trans hw313_3), ((HB.out.cell (World.block_lt_of_cell? w _ hw315_0)).trans hw315_0), ((HB.out.cell (World.block_lt_of_cell? w _ hw315_1)).trans hw315_1), ((HB.out.cell (World.block_lt_of_cell? w _ hw315_2)).trans hw315_2), ((HB.out.cell (World.block_lt_of_cell? w _ hw315_3)).trans hw315_3), ((HB.out.cell (World.block_lt_of_cell? w _ hw317_0)).trans hw317_0), ((HB.out.cell (World.block_lt_of_cell? w _ hw317_1)).trans hw317_1), ((HB.out.cell (World.block_lt_of_cell? w _ hw317_2)).trans hw317_2), ((HB.out.cell (World.block_lt_of_cell? w _ hw317_3)).trans hw317_3), ((HB.out.cell (World.block_lt_of_cell? w _ hw318_0)).trans hw318_0), ((HB.out.cell (World.block_lt_of_cell? w _ hw318_1)).trans hw318_1), ((HB.out.cell (World.block_lt_of_cell? w _ hw318_2)).trans hw318_2), ((HB.out.cell (World.block_lt_of_cell? w _ hw318_3)).trans hw318_3), ((HB.out.cell (World.block_lt_of_cell? w _ hw319_0)).trans hw319_0), ((HB.out.cell (World.block_lt_of_cell? w _ hw319_1)).trans hw319_1), ((HB.out.cell (World.block_lt_of_cell? w _ hw319_2)).trans hw319_2), ((HB.out.cell (World.block_lt_of_cell? w _ hw319_3)).trans hw319_3), ((HB.out.cell (World.block_lt_of_cell? w _ hw320_0)).trans hw320_0), ((HB.out.cell (World.block_lt_of_cell? w _ hw320_1)).trans hw320_1), ((HB.out.cell (World.block_lt_of_cell? w _ hw320_2)).trans hw320_2), ((HB.out.cell (World.block_lt_of_cell? w _ hw320_3)).trans hw320_3)⟩ (fun hHeld => ?_)); clear hK K; (refine norm_ (a' := ?_) ?_ ?_); rotate_left
                      · show Act.put _ (some 26) _ = _
                        (simp only [Act.put, sqArv10_, sqBrv10_, sqCrv10_, i64_w, i32_w]); rfl
                      (refine pure_ (i := 10) (N := some 27) (v := ?_) (a' := ?_) brv10_38_11 rfl rfl (any_of HT_.out (by kernel_rfl)) (fun _ _ _ h => h) (Or.inl ⟨by rfl, ?_⟩) ?_ ?_); rotate_left
                      · intro w'
                        go_simp; with_reducible rfl
                      rotate_left
                      · simp only [Act.put, sqArv10_, sqBrv10_, sqCrv10_, i64_w, i32_w]
                        rfl
                      (refine pure_ (i := 11) (N := some 28) (v := ?_) (a' := ?_) brv10_38_12 rfl rfl (any_of HT_.out (by kernel_rfl)) (fun _ _ _ h => h) (Or.inl ⟨by rfl, ?_⟩) ?_ ?_); rotate_left
                      · intro w'
                        go_simp; with_reducible rfl
                      rotate_left
                      · simp only [Act.put, sqArv10_, sqBrv10_, sqCrv10_, i64_w, i32_w]
                        rfl
                      (refine pure_ (i := 12) (N := some 29) (v := ?_) (a' := ?_) brv10_38_13 rfl rfl (any_of HT_.out (by kernel_rfl)) (fun _ _ _ h => h) (Or.inl ⟨by rfl, ?_⟩) ?_ ?_); rotate_left
                      · intro w'
                        go_simp; with_reducible rfl
                      rotate_left
                      · simp only [Act.put, sqArv10_, sqBrv10_, sqCrv10_, i64_w, i32_w]
                        rfl
                      (refine pure_ (i := 13) (N := some 30) (v := ?_) (a' := ?_) brv10_38_14 rfl rfl (any_of HT_.out (by kernel_rfl)) (fun _ _ _ h => h) (Or.inl ⟨by rfl, ?_⟩) ?_ ?_); rotate_left
                      · intro w'
                        go_simp; with_reducible rfl
                      rotate_left
                      · simp only [Act.put, sqArv10_, sqBrv10_, sqCrv10_, i64_w, i32_w]
                        rfl
                      (refine pure_ (i := 14) (N := some 31) (v := ?_) (a' := ?_) brv10_38_15 rfl rfl (any_of HT_.out (by kernel_rfl)) (fun _ _ _ h => h) (Or.inl ⟨by rfl, ?_⟩) ?_ ?_); rotate_left
                      · intro w'
                        go_simp; with_reducible rfl
                      rotate_left
                      · simp only [Act.put, sqArv10_, sqBrv10_, sqCrv10_, i64_w, i32_w]
                        rfl
                      (refine pure_ (i := 15) (N := some 32) (v := ?_) (a' := ?_) brv10_38_16 rfl rfl (any_of HT_.out (by kernel_rfl)) (fun _ _ _ h => h) (Or.inl ⟨by rfl, ?_⟩) ?_ ?_); rotate_left
                      · intro w'
                        go_simp; with_reducible rfl
                      rotate_left
                      · simp only [Act.put, sqArv10_, sqBrv10_, sqCrv10_, i64_w, i32_w]
                        rfl
                      (refine take_ (i := 16) (N := some 33) (v := ?_) (a' := ?_) brv10_38_17 rfl rfl (take_ofW HT_.out HW_.out (by kernel_rfl)) (fun _ _ _ h => h) (Or.inl ⟨by rfl, ?_⟩) hHeld ?_ ?_); rotate_left
                      · rintro w' ⟨s0, s1, s2, s3, s4, s5, s6, s7, s8, s9, s10, s11, s12, s13, s14, s15, s16, s17, s18, s19, s20, s21, s22, s23⟩
                        go_simp; with_reducible rfl
                      rotate_left
                      · simp only [Act.put, sqArv10_, sqBrv10_, sqCrv10_, i64_w, i32_w]
                        rfl
                      (refine pure_ (i := 17) (N := some 34) (v := ?_) (a' := ?_) brv10_38_18 rfl rfl (any_of HT_.out (by kernel_rfl)) (fun _ _ _ h => h) (Or.inl ⟨by rfl, ?_⟩) ?_ ?_); rotate_left
                      · intro w'
                        go_simp; with_reducible rfl
                      rotate_left
                      · simp only [Act.put, sqArv10_, sqBrv10_, sqCrv10_, i64_w, i32_w]
                        rfl
                      (refine pure_ (i := 18) (N := some 35) (v := ?_) (a' := ?_) brv10_38_19 rfl rfl (any_of HT_.out (by kernel_rfl)) (fun _ _ _ h => h) (Or.inl ⟨by rfl, ?_⟩) ?_ ?_); rotate_left
                      · intro w'
                        go_simp; with_reducible rfl
                      rotate_left
                      · simp only [Act.put, sqArv10_, sqBrv10_, sqCrv10_, i64_w, i32_w]
                        rfl
                      (refine pure_ (i := 19) (N := some 36) (v := ?_) (a' := ?_) brv10_38_20 rfl rfl (any_of HT_.out (by kernel_rfl)) (fun _ _ _ h => h) (Or.inl ⟨by rfl, ?_⟩) ?_ ?_); rotate_left
                      · intro w'
                        go_simp; with_reducible rfl
                      rotate_left
                      · simp only [Act.put, sqArv10_, sqBrv10_, sqCrv10_, i64_w, i32_w]
                        rfl
                      (refine pure_ (i := 20) (N := some 37) (v := ?_) (a' := ?_) brv10_38_21 rfl rfl (any_of HT_.out (by kernel_rfl)) (fun _ _ _ h => h) (Or.inl ⟨by rfl, ?_⟩) ?_ ?_); rotate_left
                      · intro w'
                        go_simp; with_reducible rfl
                      rotate_left
                      · simp only [Act.put, sqArv10_, sqBrv10_, sqCrv10_, i64_w, i32_w]
                        rfl
                      (refine pure_ (i := 21) (N := some 38) (v := ?_) (a' := ?_) brv10_38_22 rfl rfl (any_of HT_.out (by kernel_rfl)) (fun _ _ _ h => h) (Or.inl ⟨by rfl, ?_⟩) ?_ ?_); rotate_left
                      · intro w'
                        go_simp; with_reducible rfl
                      rotate_left
                      · simp only [Act.put, sqArv10_, sqBrv10_, sqCrv10_, i64_w, i32_w]
                        rfl
                      (refine pure_ (i := 22) (N := some 39) (v := ?_) (a' := ?_) brv10_38_23 rfl rfl (any_of HT_.out (by kernel_rfl)) (fun _ _ _ h => h) (Or.inl ⟨by rfl, ?_⟩) ?_ ?_); rotate_left
                      · intro w'
                        go_simp; with_reducible rfl
                      rotate_left
                      · simp only [Act.put, sqArv10_, sqBrv10_, sqCrv10_, i64_w, i32_w]
                        rfl
                      (refine take_ (i := 23) (N := some 40) (v := ?_) (a' := ?_) brv10_38_24 rfl rfl (take_ofW HT_.out HW_.out (by kernel_rfl)) (fun _ _ _ h => h) (Or.inl ⟨by rfl, ?_⟩) hHeld ?_ ?_); rotate_left
                      · rintro w' ⟨s0, s1, s2, s3, s4, s5, s6, s7, s8, s9, s10, s11, s12, s13, s14, s15, s16, s17, s18, s19, s20, s21, s22, s23⟩
                        go_simp; with_reducible rfl
                      rotate_left
                      · simp only [Act.put, sqArv10_, sqBrv10_, sqCrv10_, i64_w, i32_w]
                        rfl
                      (refine pure_ (i := 24) (N := some 41) (v := ?_) (a' := ?_) brv10_38_25 rfl rfl (any_of HT_.out (by kernel_rfl)) (fun _ _ _ h => h) (Or.inl ⟨by rfl, ?_⟩) ?_ ?_); rotate_left
                      · intro w'
                        go_simp; with_reducible rfl
                      rotate_left
                      · simp only [Act.put, sqArv10_, sqBrv10_, sqCrv10_, i64_w, i32_w]
                        rfl
                      (refine pure_ (i := 25) (N := some 42) (v := ?_) (a' := ?_) brv10_38_26 rfl rfl (any_of HT_.out (by kernel_rfl)) (fun _ _ _ h => h) (Or.inl ⟨by rfl, ?_⟩) ?_ ?_); rotate_left
                      · intro w'
                        go_simp; with_reducible rfl
                      rotate_left
                      · simp only [Act.put, sqArv10_, sqBrv10_, sqCrv10_, i64_w, i32_w]
                        rfl
                      (refine pure_ (i := 26) (N := some 43) (v := ?_) (a' := ?_) brv10_38_27 rfl rfl (any_of HT_.out (by kernel_rfl)) (fun _ _ _ h => h) (Or.inl ⟨by rfl, ?_⟩) ?_ ?_); rotate_left
                      · intro w'
                        go_simp; with_reducible rfl
                      rotate_left
                      · simp only [Act.put, sqArv10_, sqBrv10_, sqCrv10_, i64_w, i32_w]
                        rfl
                      (refine pure_ (i := 27) (N := some 44) (v := ?_) (a' := ?_) brv10_38_28 rfl rfl (any_of HT_.out (by kernel_rfl)) (fun _ _ _ h => h) (Or.inl ⟨by rfl, ?_⟩) ?_ ?_); rotate_left
                      · intro w'
                        go_simp; with_reducible rfl
                      rotate_left
                      · simp only [Act.put, sqArv10_, sqBrv10_, sqCrv10_, i64_w, i32_w]
                        rfl
                      (refine pure_ (i := 28) (N := some 45) (v := ?_) (a' := ?_) brv10_38_29 rfl rfl (any_of HT_.out (by kernel_rfl)) (fun _ _ _ h => h) (Or.inl ⟨by rfl, ?_⟩) ?_ ?_); rotate_left
                      · intro w'
                        go_simp; with_reducible rfl
                      rotate_left
                      · simp only [Act.put, sqArv10_, sqBrv10_, sqCrv10_, i64_w, i32_w]
                        rfl
                      (refine pure_ (i := 29) (N := some 46) (v := ?_) (a' := ?_) brv10_38_30 rfl rfl (any_of HT_.out (by kernel_rfl)) (fun _ _ _ h => h) (Or.inl ⟨by rfl, ?_⟩) ?_ ?_); rotate_left
                      · intro w'
                        go_simp; with_reducible rfl
                      rotate_left
                      · simp only [Act.put, sqArv10_, sqBrv10_, sqCrv10_, i64_w, i32_w]
                        rfl
                      (refine pure_ (i := 31) (N := some 48) (v := ?_) (a' := ?_) brv10_38_xbfffffff rfl rfl (any_of HT_.out (by kernel_rfl)) (fun _ _ _ h => h) (Or.inl ⟨by rfl, ?_⟩) ?_ ?_); rotate_left
                      · intro w'
                        go_simp; with_reducible rfl
                      rotate_left
                      · simp only [Act.put, sqArv10_, sqBrv10_, sqCrv10_, i64_w, i32_w]
                        rfl
                      (refine pure_ (i := 32) (N := some 49) (v := ?_) (a' := ?_) brv10_38_x1bfffffff rfl rfl (any_of HT_.out (by kernel_rfl)) (fun _ _ _ h => h) (Or.inl ⟨by rfl, ?_⟩) ?_ ?_); rotate_left
                      · intro w'
                        go_simp; with_reducible rfl
                      rotate_left
                      · simp only [Act.put, sqArv10_, sqBrv10_, sqCrv10_, i64_w, i32_w]
                        rfl
                      (refine pure_ (i := 33) (N := some 50) (v := ?_) (a' := ?_) brv10_38_x3bfffffff rfl rfl (any_of HT_.out (by kernel_rfl)) (fun _ _ _ h => h) (Or.inl ⟨by rfl, ?_⟩) ?_ ?_); rotate_left
                      · intro w'
                        go_simp; with_reducible rfl
                      rotate_left
                      · simp only [Act.put, sqArv10_, sqBrv10_, sqCrv10_, i64_w, i32_w]
                        rfl
                      (refine take_ (i := 30) (N := some 47) (v := ?_) (a' := ?_) brv10_38_34 rfl rfl (take_ofW HT_.out HW_.out (by kernel_rfl)) (fun _ _ _ h => h) (Or.inl ⟨by rfl, ?_⟩) hHeld ?_ ?_); rotate_left
                      · rintro w' ⟨s0, s1, s2, s3, s4, s5, s6, s7, s8, s9, s10, s11, s12, s13, s14, s15, s16, s17, s18, s19, s20, s21, s22, s23⟩
                        go_simp; with_reducible rfl
                      rotate_left
                      · simp only [Act.put, sqArv10_, sqBrv10_, sqCrv10_, i64_w, i32_w]
                        rfl
                      (refine take_ (i := 34) (N := some 51) (v := ?_) (a' := ?_) brv10_38_35 rfl rfl (take_ofW HT_.out HW_.out (by kernel_rfl)) (fun _ _ _ h => h) (Or.inl ⟨by rfl, ?_⟩) hHeld ?_ ?_); rotate_left
                      · rintro w' ⟨s0, s1, s2, s3, s4, s5, s6, s7, s8, s9, s10, s11, s12, s13, s14, s15, s16, s17, s18, s19, s20, s21, s22, s23⟩
                        go_simp; with_reducible rfl
                      rotate_left
                      · simp only [Act.put, sqArv10_, sqBrv10_, sqCrv10_, i64_w, i32_w]
                        rfl
                      (refine pure_ (i := 35) (N := some 52) (v := ?_) (a' := ?_) brv10_38_36 rfl rfl (any_of HT_.out (by kernel_rfl)) (fun _ _ _ h => h) (Or.inl ⟨by rfl, ?_⟩) ?_ ?_); rotate_left
                      · intro w'
                        go_simp; with_reducible rfl
                      rotate_left
                      · simp only [Act.put, sqArv10_, sqBrv10_, sqCrv10_, i64_w, i32_w]
                        rfl
                      (refine pure_ (i := 36) (N := some 53) (v := ?_) (a' := ?_) brv10_38_37 rfl rfl (any_of HT_.out (by kernel_rfl)) (fun _ _ _ h => h) (Or.inl ⟨by rfl, ?_⟩) ?_ ?_); rotate_left
                      · intro w'
                        go_simp; with_reducible rfl
                      rotate_left
                      · simp only [Act.put, sqArv10_, sqBrv10_, sqCrv10_, i64_w, i32_w]
                        rfl
                      (refine pure_ (i := 37) (N := some 54) (v := ?_) (a' := ?_) brv10_38_38 rfl rfl (any_of HT_.out (by kernel_rfl)) (fun _ _ _ h => h) (Or.inl ⟨by rfl, ?_⟩) ?_ ?_); rotate_left
                      · intro w'
                        go_simp; with_reducible rfl
                      rotate_left
                      · simp only [Act.put, sqArv10_, sqBrv10_, sqCrv10_, i64_w, i32_w]
                        rfl
                      (refine done_ (done_of HT_.out (by kernel_rfl)) ?_); (try go_wp2); (go_ret); (exact ⟨by first | rfl | (simp [errW_none, errW_some] <;> rfl) | (simp [*, errW_none, errW_some] <;> rfl), by repeat (first | (with_reducible first | exact HB.out | apply below_alloc | apply pw_below_drewN | apply below_drew1) | exact HB.out)⟩)
                    · rw [if_neg c20] at H
                      (have c20b0 : (!((false) == (false)) || (!((((rd_T45 l0 x5_1).f1).toList) == (((rd_T45 l1 x5_1).f1).toList)) || (!((((rd_T45 l0 x5_1).f2).toList) == (((rd_T45 l1 x5_1).f2).toList)) || (!((((rd_T45 l0 x5_1).f3).toList) == (((rd_T45 l1 x5_1).f3).toList)))))) = false := by simpa using c20); (try (have c20x := c20b0; simp only [beq_self_eq_true, Bool.not_true, Bool.false_or] at c20x)); clear c20; (have H' := Aside0.mk H); clear H; (try go_wp2); (have n0_ := Aside0.mk (below_drew1 HB.out)); clear HB; (have HB := n0_); clear n0_; (have p313 : 0 ≤ (x5_1 : Int) := of_decide_eq_true (by first | (with_reducible assumption) | assumption)); (have q313 : x5_1 < (l0.length : Int) := of_decide_eq_true (by first | (with_reducible assumption) | assumption))
                      obtain ⟨ad313, e313, hx313_0, hx313_1, hx313_2, hx313_3⟩ := at_T45 HR0.out x5_1 p313 q313
                      (have hw313_3 := hx313_3); (have hw313_2 := hx313_2); (have hw313_1 := hx313_1); (have hw313_0 := hx313_0); (try rw [← Nbq10.out] at hx313_0); (try rw [← Nbq10.out] at hw313_0); (try rw [← Nbq15.out] at hx313_0); (try rw [← Nbq15.out] at hw313_0)
                      cases e313
                      (replace hx313_0 := (HB.out.cell (World.block_lt_of_cell? w _ hx313_0)).trans hx313_0); (replace hx313_1 := (HB.out.cell (World.block_lt_of_cell? w _ hx313_1)).trans hx313_1); (replace hx313_2 := (HB.out.cell (World.block_lt_of_cell? w _ hx313_2)).trans hx313_2); (replace hx313_3 := (HB.out.cell (World.block_lt_of_cell? w _ hx313_3)).trans hx313_3); (replace p313 := eq_true p313); (replace q313 := eq_true q313); (have p315 : 0 ≤ (x5_1 : Int) := of_decide_eq_true (by first | (with_reducible assumption) | assumption)); (have q315 : x5_1 < (l1.length : Int) := of_decide_eq_true (by first | (with_reducible assumption) | assumption))
                      obtain ⟨ad315, e315, hx315_0, hx315_1, hx315_2, hx315_3⟩ := at_T45 HR1.out x5_1 p315 q315
                      (have hw315_3 := hx315_3); (have hw315_2 := hx315_2); (have hw315_1 := hx315_1); (have hw315_0 := hx315_0); (try rw [← Nbq10.out] at hx315_0); (try rw [← Nbq10.out] at hw315_0); (try rw [← Nbq15.out] at hx315_0); (try rw [← Nbq15.out] at hw315_0)
                      cases e315
                      (replace hx315_0 := (HB.out.cell (World.block_lt_of_cell? w _ hx315_0)).trans hx315_0); (replace hx315_1 := (HB.out.cell (World.block_lt_of_cell? w _ hx315_1)).trans hx315_1); (replace hx315_2 := (HB.out.cell (World.block_lt_of_cell? w _ hx315_2)).trans hx315_2); (replace hx315_3 := (HB.out.cell (World.block_lt_of_cell? w _ hx315_3)).trans hx315_3); (replace p315 := eq_true p315); (replace q315 := eq_true q315); (have p317 : 0 ≤ (x5_1 : Int) := of_decide_eq_true (by first | (with_reducible assumption) | assumption)); (have q317 : x5_1 < (l0.length : Int) := of_decide_eq_true (by first | (with_reducible assumption) | assumption))
                      obtain ⟨ad317, e317, hx317_0, hx317_1, hx317_2, hx317_3⟩ := at_T45 HR0.out x5_1 p317 q317
                      (have hw317_3 := hx317_3); (have hw317_2 := hx317_2); (have hw317_1 := hx317_1); (have hw317_0 := hx317_0); (try rw [← Nbq10.out] at hx317_0); (try rw [← Nbq10.out] at hw317_0); (try rw [← Nbq15.out] at hx317_0); (try rw [← Nbq15.out] at hw317_0)
                      obtain rfl : ad313 = ad317 := (by injection e317)
                      (replace hx317_0 := (HB.out.cell (World.block_lt_of_cell? w _ hx317_0)).trans hx317_0); (replace hx317_1 := (HB.out.cell (World.block_lt_of_cell? w _ hx317_1)).trans hx317_1); (replace hx317_2 := (HB.out.cell (World.block_lt_of_cell? w _ hx317_2)).trans hx317_2); (replace hx317_3 := (HB.out.cell (World.block_lt_of_cell? w _ hx317_3)).trans hx317_3); (replace p317 := eq_true p317); (replace q317 := eq_true q317); (have p318 : 0 ≤ (x5_1 : Int) := of_decide_eq_true (by first | (with_reducible assumption) | assumption)); (have q318 : x5_1 < (l1.length : Int) := of_decide_eq_true (by first | (with_reducible assumption) | assumption))
                      obtain ⟨ad318, e318, hx318_0, hx318_1, hx318_2, hx318_3⟩ := at_T45 HR1.out x5_1 p318 q318
                      (have hw318_3 := hx318_3); (have hw318_2 := hx318_2); (have hw318_1 := hx318_1); (have hw318_0 := hx318_0); (try rw [← Nbq10.out] at hx318_0); (try rw [← Nbq10.out] at hw318_0); (try rw [← Nbq15.out] at hx318_0); (try rw [← Nbq15.out] at hw318_0)
                      obtain rfl : ad315 = ad318 := (by injection e318)
                      (replace hx318_0 := (HB.out.cell (World.block_lt_of_cell? w _ hx318_0)).trans hx318_0); (replace hx318_1 := (HB.out.cell (World.block_lt_of_cell? w _ hx318_1)).trans hx318_1); (replace hx318_2 := (HB.out.cell (World.block_lt_of_cell? w _ hx318_2)).trans hx318_2); (replace hx318_3 := (HB.out.cell (World.block_lt_of_cell? w _ hx318_3)).trans hx318_3); (replace p318 := eq_true p318); (replace q318 := eq_true q318); (have p319 : 0 ≤ (x5_1 : Int) := of_decide_eq_true (by first | (with_reducible assumption) | assumption)); (have q319 : x5_1 < (l0.length : Int) := of_decide_eq_true (by first | (with_reducible assumption) | assumption))
                      obtain ⟨ad319, e319, hx319_0, hx319_1, hx319_2, hx319_3⟩ := at_T45 HR0.out x5_1 p319 q319
                      (have hw319_3 := hx319_3); (have hw319_2 := hx319_2); (have hw319_1 := hx319_1); (have hw319_0 := hx319_0); (try rw [← Nbq10.out] at hx319_0); (try rw [← Nbq10.out] at hw319_0); (try rw [← Nbq15.out] at hx319_0); (try rw [← Nbq15.out] at hw319_0)
                      obtain rfl : ad313 = ad319 := (by injection e319)
                      (replace hx319_0 := (HB.out.cell (World.block_lt_of_cell? w _ hx319_0)).trans hx319_0); (replace hx319_1 := (HB.out.cell (World.block_lt_of_cell? w _ hx319_1)).trans hx319_1); (replace hx319_2 := (HB.out.cell (World.block_lt_of_cell? w _ hx319_2)).trans hx319_2); (replace hx319_3 := (HB.out.cell (World.block_lt_of_cell? w _ hx319_3)).trans hx319_3); (replace p319 := eq_true p319); (replace q319 := eq_true q319); (have p320 : 0 ≤ (x5_1 : Int) := of_decide_eq_true (by first | (with_reducible assumption) | assumption)); (have q320 : x5_1 < (l1.length : Int) := of_decide_eq_true (by first | (with_reducible assumption) | assumption))
                      obtain ⟨ad320, e320, hx320_0, hx320_1, hx320_2, hx320_3⟩ := at_T45 HR1.out x5_1 p320 q320
                      (have hw320_3 := hx320_3); (have hw320_2 := hx320_2); (have hw320_1 := hx320_1); (have hw320_0 := hx320_0); (try rw [← Nbq10.out] at hx320_0); (try rw [← Nbq10.out] at hw320_0); (try rw [← Nbq15.out] at hx320_0); (try rw [← Nbq15.out] at hw320_0)
                      obtain rfl : ad315 = ad320 := (by injection e320)
                      (replace hx320_0 := (HB.out.cell (World.block_lt_of_cell? w _ hx320_0)).trans hx320_0); (replace hx320_1 := (HB.out.cell (World.block_lt_of_cell? w _ hx320_1)).trans hx320_1); (replace hx320_2 := (HB.out.cell (World.block_lt_of_cell? w _ hx320_2)).trans hx320_2); (replace hx320_3 := (HB.out.cell (World.block_lt_of_cell? w _ hx320_3)).trans hx320_3); (replace p320 := eq_true p320); (replace q320 := eq_true q320); (refine start_ (n := 38) (S := fun w' => w'.cell? (ad313.add ((x5_1).toNat * 4)) = some (.bool false) ∧ w'.cell? ⟨(ad313.add ((x5_1).toNat * 4)).block, (ad313.add ((x5_1).toNat * 4)).off + 1, none⟩ = some (.string ((rd_T45 l0 x5_1).f1)) ∧ w'.cell? ⟨(ad313.add ((x5_1).toNat * 4)).block, (ad313.add ((x5_1).toNat * 4)).off + 2, none⟩ = some (.string ((rd_T45 l0 x5_1).f2)) ∧ w'.cell? ⟨(ad313.add ((x5_1).toNat * 4)).block, (ad313.add ((x5_1).toNat * 4)).off + 3, none⟩ = some (.string ((rd_T45 l0 x5_1).f3)) ∧ w'.cell? (ad315.add ((x5_1).toNat * 4)) = some (.bool false) ∧ w'.cell? ⟨(ad315.add ((x5_1).toNat * 4)).block, (ad315.add ((x5_1).toNat * 4)).off + 1, none⟩ = some (.string ((rd_T45 l1 x5_1).f1)) ∧ w'.cell? ⟨(ad315.add ((x5_1).toNat * 4)).block, (ad315.add ((x5_1).toNat * 4)).off + 2, none⟩ = some (.string ((rd_T45 l1 x5_1).f2)) ∧ w'.cell? ⟨(ad315.add ((x5_1).toNat * 4)).block, (ad315.add ((x5_1).toNat * 4)).off + 3, none⟩ = some (.string ((rd_T45 l1 x5_1).f3)) ∧ w'.cell? (ad313.add ((x5_1).toNat * 4)) = some (.bool false) ∧ w'.cell? ⟨(ad313.add ((x5_1).toNat * 4)).block, (ad313.add ((x5_1).toNat * 4)).off + 1, none⟩ = some (.string ((rd_T45 l0 x5_1).f1)) ∧ w'.cell? ⟨(ad313.add ((x5_1).toNat * 4)).block, (ad313.add ((x5_1).toNat * 4)).off + 2, none⟩ = some (.string ((rd_T45 l0 x5_1).f2)) ∧ w'.cell? ⟨(ad313.add ((x5_1).toNat * 4)).block, (ad313.add ((x5_1).toNat * 4)).off + 3, none⟩ = some (.string ((rd_T45 l0 x5_1).f3)) ∧ w'.cell? (ad315.add ((x5_1).toNat * 4)) = some (.bool false) ∧ w'.cell? ⟨(ad315.add ((x5_1).toNat * 4)).block, (ad315.add ((x5_1).toNat * 4)).off + 1, none⟩ = some (.string ((rd_T45 l1 x5_1).f1)) ∧ w'.cell? ⟨(ad315.add ((x5_1).toNat * 4)).block, (ad315.add ((x5_1).toNat * 4)).off + 2, none⟩ = some (.string ((rd_T45 l1 x5_1).f2)) ∧ w'.cell? ⟨(ad315.add ((x5_1).toNat * 4)).block, (ad315.add ((x5_1).toNat * 4)).off + 3, none⟩ = some (.string ((rd_T45 l1 x5_1).f3)) ∧ w'.cell? (ad313.add ((x5_1).toNat * 4)) = some (.bool (false)) ∧ w'.cell? ⟨(ad313.add ((x5_1).toNat * 4)).block, (ad313.add ((x5_1).toNat * 4)).off + 1, none⟩ = some (.string ((rd_T45 l0 x5_1).f1)) ∧ w'.cell? ⟨(ad313.add ((x5_1).toNat * 4)).block, (ad313.add ((x5_1).toNat * 4)).off + 2, none⟩ = some (.string ((rd_T45 l0 x5_1).f2)) ∧ w'.cell? ⟨(ad313.add ((x5_1).toNat * 4)).block, (ad313.add ((x5_1).toNat * 4)).off + 3, none⟩ = some (.string ((rd_T45 l0 x5_1).f3)) ∧ w'.cell? (ad315.add ((x5_1).toNat * 4)) = some (.bool (false)) ∧ w'.cell? ⟨(ad315.add ((x5_1).toNat * 4)).block, (ad315.add ((x5_1).toNat * 4)).off + 1, none⟩ = some (.string ((rd_T45 l1 x5_1).f1)) ∧ w'.cell? ⟨(ad315.add ((x5_1).toNat * 4)).block, (ad315.add ((x5_1).toNat * 4)).off + 2, none⟩ = some (.string ((rd_T45 l1 x5_1).f2)) ∧ w'.cell? ⟨(ad315.add ((x5_1).toNat * 4)).block, (ad315.add ((x5_1).toNat * 4)).off + 3, none⟩ = some (.string ((rd_T45 l1 x5_1).f3))) (ds := []) brv10_38_0 (by kernel_rfl) rfl rfl ⟨((HB.out.cell (World.block_lt_of_cell? w _ hw313_0)).trans hw313_0), ((HB.out.cell (World.block_lt_of_cell? w _ hw313_1)).trans hw313_1), ((HB.out.cell (World.block_lt_of_cell? w _ hw313_2)).trans hw313_2), ((HB.out.cell (World.block_lt_of_cell? w _ hw313_3)).trans hw313_3), ((HB.out.cell (World.block_lt_of_cell? w _ hw315_0)).trans hw315_0), ((HB.out.cell (World.block_lt_of_cell? w _ hw315_1)).trans hw315_1), ((HB.out.cell (World.block_lt_of_cell? w _ hw315_2)).trans hw315_2), ((HB.out.cell (World.block_lt_of_cell? w _ hw315_3)).trans hw315_3), ((HB.out.cell (World.block_lt_of_cell? w _ hw317_0)).trans hw317_0), ((HB.out.cell (World.block_lt_of_cell? w _ hw317_1)).trans hw317_1), ((HB.out.cell (World.block_lt_of_cell? w _ hw317_2)).trans hw317_2), ((HB.out.cell (World.block_lt_of_cell? w _ hw317_3)).trans hw317_3), ((HB.out.cell (World.block_lt_of_cell? w _ hw318_0)).trans hw318_0), ((HB.out.cell (World.block_lt_of_cell? w _ hw318_1)).trans hw318_1), ((HB.out.cell (World.block_lt_of_cell? w _ hw318_2)).trans hw318_2), ((HB.out.cell (World.block_lt_of_cell? w _ hw318_3)).trans hw318_3), ((HB.out.cell (World.block_lt_of_cell? w _ hw319_0)).trans hw319_0), ((HB.out.cell (World.block_lt_of_cell? w _ hw319_1)).trans hw319_1), ((HB.out.cell (World.block_lt_of_cell? w _ hw319_2)).trans hw319_2), ((HB.out.cell (World.block_lt_of_cell? w _ hw319_3)).trans hw319_3), ((HB.out.cell (World.block_lt_of_cell? w _ hw320_0)).trans hw320_0), ((HB.out.cell (World.block_lt_of_cell? w _ hw320_1)).trans hw320_1), ((HB.out.cell (World.block_lt_of_cell? w _ hw320_2)).trans hw320_2), ((HB.out.cell (World.block_lt_of_cell? w _ hw320_3)).trans hw320_3)⟩ (fun hHeld => ?_); refine with_tabW missivelaw20_alike.tab6 missivelaw20_alike.bits6 (fun HT_ HW_ => ?_))
                      generalize wr.drew = w24 at HB hx313_0 hx313_1 hx313_2 hx313_3 hx315_0 hx315_1 hx315_2 hx315_3 hx317_0 hx317_1 hx317_2 hx317_3 hx318_0 hx318_1 hx318_2 hx318_3 hx319_0 hx319_1 hx319_2 hx319_3 hx320_0 hx320_1 hx320_2 hx320_3 hHeld ⊢
                      (refine pure_ (i := 0) (N := some 17) (v := ?_) (a' := ?_) brv10_38_1 rfl rfl (any_of HT_.out (by kernel_rfl)) (fun _ _ _ h => h) (Or.inl ⟨by rfl, ?_⟩) ?_ ?_); rotate_left
                      · intro w'
                        go_simp; with_reducible rfl
                      rotate_left
                      · simp only [Act.put, sqArv10_, sqBrv10_, sqCrv10_, i64_w, i32_w]
                        rfl
                      (refine pure_ (i := 1) (N := some 18) (v := ?_) (a' := ?_) brv10_38_2 rfl rfl (any_of HT_.out (by kernel_rfl)) (fun _ _ _ h => h) (Or.inl ⟨by rfl, ?_⟩) ?_ ?_); rotate_left
                      · intro w'
                        go_simp; with_reducible rfl
                      rotate_left
                      · simp only [Act.put, sqArv10_, sqBrv10_, sqCrv10_, i64_w, i32_w]
                        rfl
                      (refine pure_ (i := 2) (N := some 19) (v := ?_) (a' := ?_) brv10_38_3 rfl rfl (any_of HT_.out (by kernel_rfl)) (fun _ _ _ h => h) (Or.inl ⟨by rfl, ?_⟩) ?_ ?_); rotate_left
                      · intro w'
                        go_simp; with_reducible rfl
                      rotate_left
                      · simp only [Act.put, sqArv10_, sqBrv10_, sqCrv10_, i64_w, i32_w]
                        rfl
                      (refine pure_ (i := 5) (N := some 22) (v := ?_) (a' := ?_) brv10_38_x27 rfl rfl (any_of HT_.out (by kernel_rfl)) (fun _ _ _ h => h) (Or.inl ⟨by rfl, ?_⟩) ?_ ?_); rotate_left
                      · intro w'
                        go_simp; with_reducible rfl
                      rotate_left
                      · simp only [Act.put, sqArv10_, sqBrv10_, sqCrv10_, i64_w, i32_w]
                        rfl
                      (refine pure_ (i := 6) (N := some 23) (v := ?_) (a' := ?_) brv10_38_x67 rfl rfl (any_of HT_.out (by kernel_rfl)) (fun _ _ _ h => h) (Or.inl ⟨by rfl, ?_⟩) ?_ ?_); rotate_left
                      · intro w'
                        go_simp; with_reducible rfl
                      rotate_left
                      · simp only [Act.put, sqArv10_, sqBrv10_, sqCrv10_, i64_w, i32_w]
                        rfl
                      (refine pure_ (i := 7) (N := some 24) (v := ?_) (a' := ?_) brv10_38_xe7 rfl rfl (any_of HT_.out (by kernel_rfl)) (fun _ _ _ h => h) (Or.inl ⟨by rfl, ?_⟩) ?_ ?_); rotate_left
                      · intro w'
                        go_simp; with_reducible rfl
                      rotate_left
                      · simp only [Act.put, sqArv10_, sqBrv10_, sqCrv10_, i64_w, i32_w]
                        rfl
                      (refine take_ (i := 3) (N := some 20) (v := ?_) (a' := ?_) brv10_38_xef rfl rfl (take_ofW HT_.out HW_.out (by kernel_rfl)) (fun _ _ _ h => h) (Or.inl ⟨by rfl, ?_⟩) hHeld ?_ ?_); rotate_left
                      · rintro w' ⟨s0, s1, s2, s3, s4, s5, s6, s7, s8, s9, s10, s11, s12, s13, s14, s15, s16, s17, s18, s19, s20, s21, s22, s23⟩
                        go_simp; with_reducible rfl
                      rotate_left
                      · simp only [Act.put, sqArv10_, sqBrv10_, sqCrv10_, i64_w, i32_w]
                        rfl
                      (refine take_ (i := 8) (N := some 25) (v := ?_) (a' := ?_) brv10_38_x1ef rfl rfl (take_ofW HT_.out HW_.out (by kernel_rfl)) (fun _ _ _ h => h) (Or.inl ⟨by rfl, ?_⟩) hHeld ?_ ?_); rotate_left
                      · rintro w' ⟨s0, s1, s2, s3, s4, s5, s6, s7, s8, s9, s10, s11, s12, s13, s14, s15, s16, s17, s18, s19, s20, s21, s22, s23⟩
                        go_simp; with_reducible rfl
                      rotate_left
                      · simp only [Act.put, sqArv10_, sqBrv10_, sqCrv10_, i64_w, i32_w]
                        rfl
                      (refine one_ (i := 4) (N := some 21) brv10_38_9 rfl rfl (one_of HT_.out (by kernel_rfl)) (by decide) (fun K hK => ?_)); (refine goes_ Tryd.func67 (by kernel_rfl) rfl #[.agg #[.bool false, .string ((rd_T45 l0 x5_1).f1), .string ((rd_T45 l0 x5_1).f2), .string ((rd_T45 l0 x5_1).f3)]] (by rfl) rfl rfl (by (try simp only [List.map_toArray, List.map_cons, List.map_nil]); first | done | rfl | (simp only [List.length_drop, List.length_take]; rfl)) ?_); (with_reducible refine (missivelaw20_leaf.calls false ((rd_T45 l0 x5_1).f1) ((rd_T45 l0 x5_1).f2) ((rd_T45 l0 x5_1).f3) t314 _ (by first | ((repeat (first | exact HG_.out | apply GW.drewN | apply GW.drew | apply GW.alloc)); done) | exact GW.below HG_.out (by repeat (first | (with_reducible first | exact HB.out | apply below_alloc | apply pw_below_drewN | apply below_drew1) | exact HB.out))) (by have a_ := A6.out; (try simp only [← Nbq10.out, ← Nbq15.out] at a_); exact a_)).mono ?_); (rintro e w25 ⟨rfl, hb⟩); (refine ⟨_, rfl, ?_⟩); (have n0_ := Aside0.mk (below_step (by repeat (first | (with_reducible first | exact HB.out | apply below_alloc | apply pw_below_drewN | apply below_drew1) | exact HB.out)) hb)); clear HB; (have HB := n0_); clear n0_; (try clear hb); (try clear hb2); (try clear hk); (try clear hi); (refine hK.out _ _ ⟨((HB.out.cell (World.block_lt_of_cell? w _ hw313_0)).trans hw313_0), ((HB.out.cell (World.block_lt_of_cell? w _ hw313_1)).trans hw313_1), ((HB.out.cell (World.block_lt_of_cell? w _ hw313_2)).trans hw313_2), ((HB.out.cell (World.block_lt_of_cell? w _ hw313_3)).trans hw313_3), ((HB.out.cell (World.block_lt_of_cell? w _ hw315_0)).trans hw315_0), ((HB.out.cell (World.block_lt_of_cell? w _ hw315_1)).trans hw315_1), ((HB.out.cell (World.block_lt_of_cell? w _ hw315_2)).trans hw315_2), ((HB.out.cell (World.block_lt_of_cell? w _ hw315_3)).trans hw315_3), ((HB.out.cell (World.block_lt_of_cell? w _ hw317_0)).trans hw317_0), ((HB.out.cell (World.block_lt_of_cell? w _ hw317_1)).trans hw317_1), ((HB.out.cell (World.block_lt_of_cell? w _ hw317_2)).trans hw317_2), ((HB.out.cell (World.block_lt_of_cell? w _ hw317_3)).trans hw317_3), ((HB.out.cell (World.block_lt_of_cell? w _ hw318_0)).trans hw318_0), ((HB.out.cell (World.block_lt_of_cell? w _ hw318_1)).trans hw318_1), ((HB.out.cell (World.block_lt_of_cell? w _ hw318_2)).trans hw318_2), ((HB.out.cell (World.block_lt_of_cell? w _ hw318_3)).trans hw318_3), ((HB.out.cell (World.block_lt_of_cell? w _ hw319_0)).trans hw319_0), ((HB.out.cell (World.block_lt_of_cell? w _ hw319_1)).trans hw319_1), ((HB.out.cell (World.block_lt_of_cell? w _ hw319_2)).trans hw319_2), ((HB.out.cell (World.block_lt_of_cell? w _ hw319_3)).trans hw319_3), ((HB.out.cell (World.block_lt_of_cell? w _ hw320_0)).trans hw320_0), ((HB.out.cell (World.block_lt_of_cell? w _ hw320_1)).trans hw320_1), ((HB.out.cell (World.block_lt_of_cell? w _ hw320_2)).trans hw320_2), ((HB.out.cell (World.block_lt_of_cell? w _ hw320_3)).trans hw320_3)⟩ (fun hHeld => ?_)); clear hK K; (refine norm_ (a' := ?_) ?_ ?_); rotate_left
                      · show Act.put _ (some 21) _ = _
                        (simp only [Act.put, sqArv10_, sqBrv10_, sqCrv10_, i64_w, i32_w]); rfl
                      (refine one_ (i := 9) (N := some 26) brv10_38_10 rfl rfl (one_of HT_.out (by kernel_rfl)) (by decide) (fun K hK => ?_)); (refine goes_ Tryd.func67 (by kernel_rfl) rfl #[.agg #[.bool false, .string ((rd_T45 l1 x5_1).f1), .string ((rd_T45 l1 x5_1).f2), .string ((rd_T45 l1 x5_1).f3)]] (by rfl) rfl rfl (by (try simp only [List.map_toArray, List.map_cons, List.map_nil]); first | done | rfl | (simp only [List.length_drop, List.length_take]; rfl)) ?_); (with_reducible refine (missivelaw20_leaf.calls false ((rd_T45 l1 x5_1).f1) ((rd_T45 l1 x5_1).f2) ((rd_T45 l1 x5_1).f3) t316 _ (by first | ((repeat (first | exact HG_.out | apply GW.drewN | apply GW.drew | apply GW.alloc)); done) | exact GW.below HG_.out (by repeat (first | (with_reducible first | exact HB.out | apply below_alloc | apply pw_below_drewN | apply below_drew1) | exact HB.out))) (by have a_ := A8.out; (try simp only [← Nbq10.out, ← Nbq15.out] at a_); exact a_)).mono ?_); (rintro e w26 ⟨rfl, hb⟩); (refine ⟨_, rfl, ?_⟩); (have n0_ := Aside0.mk (below_step (by repeat (first | (with_reducible first | exact HB.out | apply below_alloc | apply pw_below_drewN | apply below_drew1) | exact HB.out)) hb)); clear HB; (have HB := n0_); clear n0_; (try clear hb); (try clear hb2); (try clear hk); (try clear hi); (refine hK.out _ _ ⟨((HB.out.cell (World.block_lt_of_cell? w _ hw313_0)).trans hw313_0), ((HB.out.cell (World.block_lt_of_cell? w _ hw313_1)).trans hw313_1), ((HB.out.cell (World.block_lt_of_cell? w _ hw313_2)).trans hw313_2), ((HB.out.cell (World.block_lt_of_cell? w _ hw313_3)).trans hw313_3), ((HB.out.cell (World.block_lt_of_cell? w _ hw315_0)).trans hw315_0), ((HB.out.cell (World.block_lt_of_cell? w _ hw315_1)).trans hw315_1), ((HB.out.cell (World.block_lt_of_cell? w _ hw315_2)).trans hw315_2), ((HB.out.cell (World.block_lt_of_cell? w _ hw315_3)).trans hw315_3), ((HB.out.cell (World.block_lt_of_cell? w _ hw317_0)).trans hw317_0), ((HB.out.cell (World.block_lt_of_cell? w _ hw317_1)).trans hw317_1), ((HB.out.cell (World.block_lt_of_cell? w _ hw317_2)).trans hw317_2), ((HB.out.cell (World.block_lt_of_cell? w _ hw317_3)).trans hw317_3), ((HB.out.cell (World.block_lt_of_cell? w _ hw318_0)).trans hw318_0), ((HB.out.cell (World.block_lt_of_cell? w _ hw318_1)).trans hw318_1), ((HB.out.cell (World.block_lt_of_cell? w _ hw318_2)).trans hw318_2), ((HB.out.cell (World.block_lt_of_cell? w _ hw318_3)).trans hw318_3), ((HB.out.cell (World.block_lt_of_cell? w _ hw319_0)).trans hw319_0), ((HB.out.cell (World.block_lt_of_cell? w _ hw319_1)).trans hw319_1), ((HB.out.cell (World.block_lt_of_cell? w _ hw319_2)).trans hw319_2), ((HB.out.cell (World.block_lt_of_cell? w _ hw319_3)).trans hw319_3), ((HB.out.cell (World.block_lt_of_cell? w _ hw320_0)).trans hw320_0), ((HB.out.cell (World.block_lt_of_cell? w _ hw320_1)).trans hw320_1), ((HB.out.cell (World.block_lt_of_cell? w _ hw320_2)).trans hw320_2), ((HB.out.cell (World.block_lt_of_cell? w _ hw320_3)).trans hw320_3)⟩ (fun hHeld => ?_)); clear hK K; (refine norm_ (a' := ?_) ?_ ?_); rotate_left
                      · show Act.put _ (some 26) _ = _
                        (simp only [Act.put, sqArv10_, sqBrv10_, sqCrv10_, i64_w, i32_w]); rfl
                      (refine pure_ (i := 10) (N := some 27) (v := ?_) (a' := ?_) brv10_38_11 rfl rfl (any_of HT_.out (by kernel_rfl)) (fun _ _ _ h => h) (Or.inl ⟨by rfl, ?_⟩) ?_ ?_); rotate_left
                      · intro w'
                        go_simp; with_reducible rfl
                      rotate_left
                      · simp only [Act.put, sqArv10_, sqBrv10_, sqCrv10_, i64_w, i32_w]
                        rfl
                      (refine pure_ (i := 11) (N := some 28) (v := ?_) (a' := ?_) brv10_38_12 rfl rfl (any_of HT_.out (by kernel_rfl)) (fun _ _ _ h => h) (Or.inl ⟨by rfl, ?_⟩) ?_ ?_); rotate_left
                      · intro w'
                        go_simp; with_reducible rfl
                      rotate_left
                      · simp only [Act.put, sqArv10_, sqBrv10_, sqCrv10_, i64_w, i32_w]
                        rfl
                      (refine pure_ (i := 12) (N := some 29) (v := ?_) (a' := ?_) brv10_38_13 rfl rfl (any_of HT_.out (by kernel_rfl)) (fun _ _ _ h => h) (Or.inl ⟨by rfl, ?_⟩) ?_ ?_); rotate_left
                      · intro w'
                        go_simp; with_reducible rfl
                      rotate_left
                      · simp only [Act.put, sqArv10_, sqBrv10_, sqCrv10_, i64_w, i32_w]
                        rfl
                      (refine pure_ (i := 13) (N := some 30) (v := ?_) (a' := ?_) brv10_38_14 rfl rfl (any_of HT_.out (by kernel_rfl)) (fun _ _ _ h => h) (Or.inl ⟨by rfl, ?_⟩) ?_ ?_); rotate_left
                      · intro w'
                        go_simp; with_reducible rfl
                      rotate_left
                      · simp only [Act.put, sqArv10_, sqBrv10_, sqCrv10_, i64_w, i32_w]
                        rfl
                      (refine pure_ (i := 14) (N := some 31) (v := ?_) (a' := ?_) brv10_38_15 rfl rfl (any_of HT_.out (by kernel_rfl)) (fun _ _ _ h => h) (Or.inl ⟨by rfl, ?_⟩) ?_ ?_); rotate_left
                      · intro w'
                        go_simp; with_reducible rfl
                      rotate_left
                      · simp only [Act.put, sqArv10_, sqBrv10_, sqCrv10_, i64_w, i32_w]
                        rfl
                      (refine pure_ (i := 15) (N := some 32) (v := ?_) (a' := ?_) brv10_38_16 rfl rfl (any_of HT_.out (by kernel_rfl)) (fun _ _ _ h => h) (Or.inl ⟨by rfl, ?_⟩) ?_ ?_); rotate_left
                      · intro w'
                        go_simp; with_reducible rfl
                      rotate_left
                      · simp only [Act.put, sqArv10_, sqBrv10_, sqCrv10_, i64_w, i32_w]
                        rfl
                      (refine take_ (i := 16) (N := some 33) (v := ?_) (a' := ?_) brv10_38_17 rfl rfl (take_ofW HT_.out HW_.out (by kernel_rfl)) (fun _ _ _ h => h) (Or.inl ⟨by rfl, ?_⟩) hHeld ?_ ?_); rotate_left
                      · rintro w' ⟨s0, s1, s2, s3, s4, s5, s6, s7, s8, s9, s10, s11, s12, s13, s14, s15, s16, s17, s18, s19, s20, s21, s22, s23⟩
                        go_simp; with_reducible rfl
                      rotate_left
                      · simp only [Act.put, sqArv10_, sqBrv10_, sqCrv10_, i64_w, i32_w]
                        rfl
                      (refine pure_ (i := 17) (N := some 34) (v := ?_) (a' := ?_) brv10_38_18 rfl rfl (any_of HT_.out (by kernel_rfl)) (fun _ _ _ h => h) (Or.inl ⟨by rfl, ?_⟩) ?_ ?_); rotate_left
                      · intro w'
                        go_simp; with_reducible rfl
                      rotate_left
                      · simp only [Act.put, sqArv10_, sqBrv10_, sqCrv10_, i64_w, i32_w]
                        rfl
                      (refine pure_ (i := 18) (N := some 35) (v := ?_) (a' := ?_) brv10_38_19 rfl rfl (any_of HT_.out (by kernel_rfl)) (fun _ _ _ h => h) (Or.inl ⟨by rfl, ?_⟩) ?_ ?_); rotate_left
                      · intro w'
                        go_simp; with_reducible rfl
                      rotate_left
                      · simp only [Act.put, sqArv10_, sqBrv10_, sqCrv10_, i64_w, i32_w]
                        rfl
                      (refine pure_ (i := 19) (N := some 36) (v := ?_) (a' := ?_) brv10_38_20 rfl rfl (any_of HT_.out (by kernel_rfl)) (fun _ _ _ h => h) (Or.inl ⟨by rfl, ?_⟩) ?_ ?_); rotate_left
                      · intro w'
                        go_simp; with_reducible rfl
                      rotate_left
                      · simp only [Act.put, sqArv10_, sqBrv10_, sqCrv10_, i64_w, i32_w]
                        rfl
                      (refine pure_ (i := 20) (N := some 37) (v := ?_) (a' := ?_) brv10_38_21 rfl rfl (any_of HT_.out (by kernel_rfl)) (fun _ _ _ h => h) (Or.inl ⟨by rfl, ?_⟩) ?_ ?_); rotate_left
                      · intro w'
                        go_simp; with_reducible rfl
                      rotate_left
                      · simp only [Act.put, sqArv10_, sqBrv10_, sqCrv10_, i64_w, i32_w]
                        rfl
                      (refine pure_ (i := 21) (N := some 38) (v := ?_) (a' := ?_) brv10_38_22 rfl rfl (any_of HT_.out (by kernel_rfl)) (fun _ _ _ h => h) (Or.inl ⟨by rfl, ?_⟩) ?_ ?_); rotate_left
                      · intro w'
                        go_simp; with_reducible rfl
                      rotate_left
                      · simp only [Act.put, sqArv10_, sqBrv10_, sqCrv10_, i64_w, i32_w]
                        rfl
                      (refine pure_ (i := 22) (N := some 39) (v := ?_) (a' := ?_) brv10_38_23 rfl rfl (any_of HT_.out (by kernel_rfl)) (fun _ _ _ h => h) (Or.inl ⟨by rfl, ?_⟩) ?_ ?_); rotate_left
                      · intro w'
                        go_simp; with_reducible rfl
                      rotate_left
                      · simp only [Act.put, sqArv10_, sqBrv10_, sqCrv10_, i64_w, i32_w]
                        rfl
                      (refine take_ (i := 23) (N := some 40) (v := ?_) (a' := ?_) brv10_38_24 rfl rfl (take_ofW HT_.out HW_.out (by kernel_rfl)) (fun _ _ _ h => h) (Or.inl ⟨by rfl, ?_⟩) hHeld ?_ ?_); rotate_left
                      · rintro w' ⟨s0, s1, s2, s3, s4, s5, s6, s7, s8, s9, s10, s11, s12, s13, s14, s15, s16, s17, s18, s19, s20, s21, s22, s23⟩
                        go_simp; with_reducible rfl
                      rotate_left
                      · simp only [Act.put, sqArv10_, sqBrv10_, sqCrv10_, i64_w, i32_w]
                        rfl
                      (refine pure_ (i := 24) (N := some 41) (v := ?_) (a' := ?_) brv10_38_25 rfl rfl (any_of HT_.out (by kernel_rfl)) (fun _ _ _ h => h) (Or.inl ⟨by rfl, ?_⟩) ?_ ?_); rotate_left
                      · intro w'
                        go_simp; with_reducible rfl
                      rotate_left
                      · simp only [Act.put, sqArv10_, sqBrv10_, sqCrv10_, i64_w, i32_w]
                        rfl
                      (refine pure_ (i := 25) (N := some 42) (v := ?_) (a' := ?_) brv10_38_26 rfl rfl (any_of HT_.out (by kernel_rfl)) (fun _ _ _ h => h) (Or.inl ⟨by rfl, ?_⟩) ?_ ?_); rotate_left
                      · intro w'
                        go_simp; with_reducible rfl
                      rotate_left
                      · simp only [Act.put, sqArv10_, sqBrv10_, sqCrv10_, i64_w, i32_w]
                        rfl
                      (refine pure_ (i := 26) (N := some 43) (v := ?_) (a' := ?_) brv10_38_27 rfl rfl (any_of HT_.out (by kernel_rfl)) (fun _ _ _ h => h) (Or.inl ⟨by rfl, ?_⟩) ?_ ?_); rotate_left
                      · intro w'
                        go_simp; with_reducible rfl
                      rotate_left
                      · simp only [Act.put, sqArv10_, sqBrv10_, sqCrv10_, i64_w, i32_w]
                        rfl
                      (refine pure_ (i := 27) (N := some 44) (v := ?_) (a' := ?_) brv10_38_28 rfl rfl (any_of HT_.out (by kernel_rfl)) (fun _ _ _ h => h) (Or.inl ⟨by rfl, ?_⟩) ?_ ?_); rotate_left
                      · intro w'
                        go_simp; with_reducible rfl
                      rotate_left
                      · simp only [Act.put, sqArv10_, sqBrv10_, sqCrv10_, i64_w, i32_w]
                        rfl
                      (refine pure_ (i := 28) (N := some 45) (v := ?_) (a' := ?_) brv10_38_29 rfl rfl (any_of HT_.out (by kernel_rfl)) (fun _ _ _ h => h) (Or.inl ⟨by rfl, ?_⟩) ?_ ?_); rotate_left
                      · intro w'
                        go_simp; with_reducible rfl
                      rotate_left
                      · simp only [Act.put, sqArv10_, sqBrv10_, sqCrv10_, i64_w, i32_w]
                        rfl
                      (refine pure_ (i := 29) (N := some 46) (v := ?_) (a' := ?_) brv10_38_30 rfl rfl (any_of HT_.out (by kernel_rfl)) (fun _ _ _ h => h) (Or.inl ⟨by rfl, ?_⟩) ?_ ?_); rotate_left
                      · intro w'
                        go_simp; with_reducible rfl
                      rotate_left
                      · simp only [Act.put, sqArv10_, sqBrv10_, sqCrv10_, i64_w, i32_w]
                        rfl
                      (refine pure_ (i := 31) (N := some 48) (v := ?_) (a' := ?_) brv10_38_xbfffffff rfl rfl (any_of HT_.out (by kernel_rfl)) (fun _ _ _ h => h) (Or.inl ⟨by rfl, ?_⟩) ?_ ?_); rotate_left
                      · intro w'
                        go_simp; with_reducible rfl
                      rotate_left
                      · simp only [Act.put, sqArv10_, sqBrv10_, sqCrv10_, i64_w, i32_w]
                        rfl
                      (refine pure_ (i := 32) (N := some 49) (v := ?_) (a' := ?_) brv10_38_x1bfffffff rfl rfl (any_of HT_.out (by kernel_rfl)) (fun _ _ _ h => h) (Or.inl ⟨by rfl, ?_⟩) ?_ ?_); rotate_left
                      · intro w'
                        go_simp; with_reducible rfl
                      rotate_left
                      · simp only [Act.put, sqArv10_, sqBrv10_, sqCrv10_, i64_w, i32_w]
                        rfl
                      (refine pure_ (i := 33) (N := some 50) (v := ?_) (a' := ?_) brv10_38_x3bfffffff rfl rfl (any_of HT_.out (by kernel_rfl)) (fun _ _ _ h => h) (Or.inl ⟨by rfl, ?_⟩) ?_ ?_); rotate_left
                      · intro w'
                        go_simp; with_reducible rfl
                      rotate_left
                      · simp only [Act.put, sqArv10_, sqBrv10_, sqCrv10_, i64_w, i32_w]
                        rfl
                      (refine take_ (i := 30) (N := some 47) (v := ?_) (a' := ?_) brv10_38_34 rfl rfl (take_ofW HT_.out HW_.out (by kernel_rfl)) (fun _ _ _ h => h) (Or.inl ⟨by rfl, ?_⟩) hHeld ?_ ?_); rotate_left
                      · rintro w' ⟨s0, s1, s2, s3, s4, s5, s6, s7, s8, s9, s10, s11, s12, s13, s14, s15, s16, s17, s18, s19, s20, s21, s22, s23⟩
                        go_simp; with_reducible rfl
                      rotate_left
                      · simp only [Act.put, sqArv10_, sqBrv10_, sqCrv10_, i64_w, i32_w]
                        rfl
                      (refine take_ (i := 34) (N := some 51) (v := ?_) (a' := ?_) brv10_38_35 rfl rfl (take_ofW HT_.out HW_.out (by kernel_rfl)) (fun _ _ _ h => h) (Or.inl ⟨by rfl, ?_⟩) hHeld ?_ ?_); rotate_left
                      · rintro w' ⟨s0, s1, s2, s3, s4, s5, s6, s7, s8, s9, s10, s11, s12, s13, s14, s15, s16, s17, s18, s19, s20, s21, s22, s23⟩
                        go_simp; with_reducible rfl
                      rotate_left
                      · simp only [Act.put, sqArv10_, sqBrv10_, sqCrv10_, i64_w, i32_w]
                        rfl
                      (refine pure_ (i := 35) (N := some 52) (v := ?_) (a' := ?_) brv10_38_36 rfl rfl (any_of HT_.out (by kernel_rfl)) (fun _ _ _ h => h) (Or.inl ⟨by rfl, ?_⟩) ?_ ?_); rotate_left
                      · intro w'
                        go_simp; with_reducible rfl
                      rotate_left
                      · simp only [Act.put, sqArv10_, sqBrv10_, sqCrv10_, i64_w, i32_w]
                        rfl
                      (refine pure_ (i := 36) (N := some 53) (v := ?_) (a' := ?_) brv10_38_37 rfl rfl (any_of HT_.out (by kernel_rfl)) (fun _ _ _ h => h) (Or.inl ⟨by rfl, ?_⟩) ?_ ?_); rotate_left
                      · intro w'
                        go_simp; with_reducible rfl
                      rotate_left
                      · simp only [Act.put, sqArv10_, sqBrv10_, sqCrv10_, i64_w, i32_w]
                        rfl
                      (refine pure_ (i := 37) (N := some 54) (v := ?_) (a' := ?_) brv10_38_38 rfl rfl (any_of HT_.out (by kernel_rfl)) (fun _ _ _ h => h) (Or.inl ⟨by rfl, ?_⟩) ?_ ?_); rotate_left
                      · intro w'
                        go_simp; with_reducible rfl
                      rotate_left
                      · simp only [Act.put, sqArv10_, sqBrv10_, sqCrv10_, i64_w, i32_w]
                        rfl
                      (refine done_ (done_of HT_.out (by kernel_rfl)) ?_); (try go_wp2); (go_roundg k1)
                      case measure => have := HK1.out; omega
                      case rel => (try simp only [← Nbq10.out]); (try simp only [← Nbq15.out]); exact ⟨(wrap64 (x5_1 + 1)), (by first | rfl | (simp; done) | (simp [*]; done)), H', ⟨by have := HK1.out; omega⟩, ⟨by repeat (first | (with_reducible first | exact HB.out | apply below_alloc | apply pw_below_drewN | apply below_drew1) | exact HB.out)⟩⟩
              · rw [if_neg c9] at H
                (have c9b0 : (t314.toList == t316.toList) = false := beq_eq_false_iff_ne.mpr c9); (have c9b1 : (t314.toList != t316.toList) = true := bne_iff_ne.mpr c9)
                obtain rfl := Option.some.inj H
                (try go_wp2); (have n0_ := Aside0.mk (below_drew1 HB.out)); clear HB; (have HB := n0_); clear n0_; (have p313 : 0 ≤ (x5_1 : Int) := of_decide_eq_true (by first | (with_reducible assumption) | assumption)); (have q313 : x5_1 < (l0.length : Int) := of_decide_eq_true (by first | (with_reducible assumption) | assumption))
                obtain ⟨ad313, e313, hx313_0, hx313_1, hx313_2, hx313_3⟩ := at_T45 HR0.out x5_1 p313 q313
                (have hw313_3 := hx313_3); (have hw313_2 := hx313_2); (have hw313_1 := hx313_1); (have hw313_0 := hx313_0)
                cases e313
                (replace hx313_0 := (HB.out.cell (World.block_lt_of_cell? w _ hx313_0)).trans hx313_0); (replace hx313_1 := (HB.out.cell (World.block_lt_of_cell? w _ hx313_1)).trans hx313_1); (replace hx313_2 := (HB.out.cell (World.block_lt_of_cell? w _ hx313_2)).trans hx313_2); (replace hx313_3 := (HB.out.cell (World.block_lt_of_cell? w _ hx313_3)).trans hx313_3); (replace p313 := eq_true p313); (replace q313 := eq_true q313); (have p315 : 0 ≤ (x5_1 : Int) := of_decide_eq_true (by first | (with_reducible assumption) | assumption)); (have q315 : x5_1 < (l1.length : Int) := of_decide_eq_true (by first | (with_reducible assumption) | assumption))
                obtain ⟨ad315, e315, hx315_0, hx315_1, hx315_2, hx315_3⟩ := at_T45 HR1.out x5_1 p315 q315
                (have hw315_3 := hx315_3); (have hw315_2 := hx315_2); (have hw315_1 := hx315_1); (have hw315_0 := hx315_0)
                cases e315
                (replace hx315_0 := (HB.out.cell (World.block_lt_of_cell? w _ hx315_0)).trans hx315_0); (replace hx315_1 := (HB.out.cell (World.block_lt_of_cell? w _ hx315_1)).trans hx315_1); (replace hx315_2 := (HB.out.cell (World.block_lt_of_cell? w _ hx315_2)).trans hx315_2); (replace hx315_3 := (HB.out.cell (World.block_lt_of_cell? w _ hx315_3)).trans hx315_3); (replace p315 := eq_true p315); (replace q315 := eq_true q315); (refine start_ (n := 38) (S := fun w' => w'.cell? (ad313.add ((x5_1).toNat * 4)) = some (.bool ((rd_T45 l0 x5_1).f0)) ∧ w'.cell? ⟨(ad313.add ((x5_1).toNat * 4)).block, (ad313.add ((x5_1).toNat * 4)).off + 1, none⟩ = some (.string ((rd_T45 l0 x5_1).f1)) ∧ w'.cell? ⟨(ad313.add ((x5_1).toNat * 4)).block, (ad313.add ((x5_1).toNat * 4)).off + 2, none⟩ = some (.string ((rd_T45 l0 x5_1).f2)) ∧ w'.cell? ⟨(ad313.add ((x5_1).toNat * 4)).block, (ad313.add ((x5_1).toNat * 4)).off + 3, none⟩ = some (.string ((rd_T45 l0 x5_1).f3)) ∧ w'.cell? (ad315.add ((x5_1).toNat * 4)) = some (.bool ((rd_T45 l1 x5_1).f0)) ∧ w'.cell? ⟨(ad315.add ((x5_1).toNat * 4)).block, (ad315.add ((x5_1).toNat * 4)).off + 1, none⟩ = some (.string ((rd_T45 l1 x5_1).f1)) ∧ w'.cell? ⟨(ad315.add ((x5_1).toNat * 4)).block, (ad315.add ((x5_1).toNat * 4)).off + 2, none⟩ = some (.string ((rd_T45 l1 x5_1).f2)) ∧ w'.cell? ⟨(ad315.add ((x5_1).toNat * 4)).block, (ad315.add ((x5_1).toNat * 4)).off + 3, none⟩ = some (.string ((rd_T45 l1 x5_1).f3))) (ds := []) brv10_38_0 (by kernel_rfl) rfl rfl ⟨((HB.out.cell (World.block_lt_of_cell? w _ hw313_0)).trans hw313_0), ((HB.out.cell (World.block_lt_of_cell? w _ hw313_1)).trans hw313_1), ((HB.out.cell (World.block_lt_of_cell? w _ hw313_2)).trans hw313_2), ((HB.out.cell (World.block_lt_of_cell? w _ hw313_3)).trans hw313_3), ((HB.out.cell (World.block_lt_of_cell? w _ hw315_0)).trans hw315_0), ((HB.out.cell (World.block_lt_of_cell? w _ hw315_1)).trans hw315_1), ((HB.out.cell (World.block_lt_of_cell? w _ hw315_2)).trans hw315_2), ((HB.out.cell (World.block_lt_of_cell? w _ hw315_3)).trans hw315_3)⟩ (fun hHeld => ?_); refine with_tabW missivelaw20_alike.tab6 missivelaw20_alike.bits6 (fun HT_ HW_ => ?_))
                generalize wr.drew = w27 at HB hx313_0 hx313_1 hx313_2 hx313_3 hx315_0 hx315_1 hx315_2 hx315_3 hHeld ⊢
                (refine pure_ (i := 0) (N := some 17) (v := ?_) (a' := ?_) brv10_38_1 rfl rfl (any_of HT_.out (by kernel_rfl)) (fun _ _ _ h => h) (Or.inl ⟨by rfl, ?_⟩) ?_ ?_); rotate_left
                · intro w'
                  go_simp; with_reducible rfl
                rotate_left
                · simp only [Act.put, sqArv10_, sqBrv10_, sqCrv10_, i64_w, i32_w]
                  rfl
                (refine pure_ (i := 1) (N := some 18) (v := ?_) (a' := ?_) brv10_38_2 rfl rfl (any_of HT_.out (by kernel_rfl)) (fun _ _ _ h => h) (Or.inl ⟨by rfl, ?_⟩) ?_ ?_); rotate_left
                · intro w'
                  go_simp; with_reducible rfl
                rotate_left
                · simp only [Act.put, sqArv10_, sqBrv10_, sqCrv10_, i64_w, i32_w]
                  rfl
                (refine pure_ (i := 2) (N := some 19) (v := ?_) (a' := ?_) brv10_38_3 rfl rfl (any_of HT_.out (by kernel_rfl)) (fun _ _ _ h => h) (Or.inl ⟨by rfl, ?_⟩) ?_ ?_); rotate_left
                · intro w'
                  go_simp; with_reducible rfl
                rotate_left
                · simp only [Act.put, sqArv10_, sqBrv10_, sqCrv10_, i64_w, i32_w]
                  rfl
                (refine pure_ (i := 5) (N := some 22) (v := ?_) (a' := ?_) brv10_38_x27 rfl rfl (any_of HT_.out (by kernel_rfl)) (fun _ _ _ h => h) (Or.inl ⟨by rfl, ?_⟩) ?_ ?_); rotate_left
                · intro w'
                  go_simp; with_reducible rfl
                rotate_left
                · simp only [Act.put, sqArv10_, sqBrv10_, sqCrv10_, i64_w, i32_w]
                  rfl
                (refine pure_ (i := 6) (N := some 23) (v := ?_) (a' := ?_) brv10_38_x67 rfl rfl (any_of HT_.out (by kernel_rfl)) (fun _ _ _ h => h) (Or.inl ⟨by rfl, ?_⟩) ?_ ?_); rotate_left
                · intro w'
                  go_simp; with_reducible rfl
                rotate_left
                · simp only [Act.put, sqArv10_, sqBrv10_, sqCrv10_, i64_w, i32_w]
                  rfl
                (refine pure_ (i := 7) (N := some 24) (v := ?_) (a' := ?_) brv10_38_xe7 rfl rfl (any_of HT_.out (by kernel_rfl)) (fun _ _ _ h => h) (Or.inl ⟨by rfl, ?_⟩) ?_ ?_); rotate_left
                · intro w'
                  go_simp; with_reducible rfl
                rotate_left
                · simp only [Act.put, sqArv10_, sqBrv10_, sqCrv10_, i64_w, i32_w]
                  rfl
                (refine take_ (i := 3) (N := some 20) (v := ?_) (a' := ?_) brv10_38_xef rfl rfl (take_ofW HT_.out HW_.out (by kernel_rfl)) (fun _ _ _ h => h) (Or.inl ⟨by rfl, ?_⟩) hHeld ?_ ?_); rotate_left
                · rintro w' ⟨s0, s1, s2, s3, s4, s5, s6, s7⟩
                  go_simp; with_reducible rfl
                rotate_left
                · simp only [Act.put, sqArv10_, sqBrv10_, sqCrv10_, i64_w, i32_w]
                  rfl
                (refine take_ (i := 8) (N := some 25) (v := ?_) (a' := ?_) brv10_38_x1ef rfl rfl (take_ofW HT_.out HW_.out (by kernel_rfl)) (fun _ _ _ h => h) (Or.inl ⟨by rfl, ?_⟩) hHeld ?_ ?_); rotate_left
                · rintro w' ⟨s0, s1, s2, s3, s4, s5, s6, s7⟩
                  go_simp; with_reducible rfl
                rotate_left
                · simp only [Act.put, sqArv10_, sqBrv10_, sqCrv10_, i64_w, i32_w]
                  rfl
                (refine one_ (i := 4) (N := some 21) brv10_38_9 rfl rfl (one_of HT_.out (by kernel_rfl)) (by decide) (fun K hK => ?_)); (refine goes_ Tryd.func67 (by kernel_rfl) rfl #[.agg #[.bool ((rd_T45 l0 x5_1).f0), .string ((rd_T45 l0 x5_1).f1), .string ((rd_T45 l0 x5_1).f2), .string ((rd_T45 l0 x5_1).f3)]] (by rfl) rfl rfl (by (try simp only [List.map_toArray, List.map_cons, List.map_nil]); first | done | rfl | (simp only [List.length_drop, List.length_take]; rfl)) ?_); (with_reducible refine (missivelaw20_leaf.calls ((rd_T45 l0 x5_1).f0) ((rd_T45 l0 x5_1).f1) ((rd_T45 l0 x5_1).f2) ((rd_T45 l0 x5_1).f3) t314 _ (by first | ((repeat (first | exact HG_.out | apply GW.drewN | apply GW.drew | apply GW.alloc)); done) | exact GW.below HG_.out (by repeat (first | (with_reducible first | exact HB.out | apply below_alloc | apply pw_below_drewN | apply below_drew1) | exact HB.out))) A6.out).mono ?_); (rintro e w28 ⟨rfl, hb⟩); (refine ⟨_, rfl, ?_⟩); (have n0_ := Aside0.mk (below_step (by repeat (first | (with_reducible first | exact HB.out | apply below_alloc | apply pw_below_drewN | apply below_drew1) | exact HB.out)) hb)); clear HB; (have HB := n0_); clear n0_; (try clear hb); (try clear hb2); (try clear hk); (try clear hi); (refine hK.out _ _ ⟨((HB.out.cell (World.block_lt_of_cell? w _ hw313_0)).trans hw313_0), ((HB.out.cell (World.block_lt_of_cell? w _ hw313_1)).trans hw313_1), ((HB.out.cell (World.block_lt_of_cell? w _ hw313_2)).trans hw313_2), ((HB.out.cell (World.block_lt_of_cell? w _ hw313_3)).trans hw313_3), ((HB.out.cell (World.block_lt_of_cell? w _ hw315_0)).trans hw315_0), ((HB.out.cell (World.block_lt_of_cell? w _ hw315_1)).trans hw315_1), ((HB.out.cell (World.block_lt_of_cell? w _ hw315_2)).trans hw315_2), ((HB.out.cell (World.block_lt_of_cell? w _ hw315_3)).trans hw315_3)⟩ (fun hHeld => ?_)); clear hK K; (refine norm_ (a' := ?_) ?_ ?_); rotate_left
                · show Act.put _ (some 21) _ = _
                  (simp only [Act.put, sqArv10_, sqBrv10_, sqCrv10_, i64_w, i32_w]); rfl
                (refine one_ (i := 9) (N := some 26) brv10_38_10 rfl rfl (one_of HT_.out (by kernel_rfl)) (by decide) (fun K hK => ?_)); (refine goes_ Tryd.func67 (by kernel_rfl) rfl #[.agg #[.bool ((rd_T45 l1 x5_1).f0), .string ((rd_T45 l1 x5_1).f1), .string ((rd_T45 l1 x5_1).f2), .string ((rd_T45 l1 x5_1).f3)]] (by rfl) rfl rfl (by (try simp only [List.map_toArray, List.map_cons, List.map_nil]); first | done | rfl | (simp only [List.length_drop, List.length_take]; rfl)) ?_); (with_reducible refine (missivelaw20_leaf.calls ((rd_T45 l1 x5_1).f0) ((rd_T45 l1 x5_1).f1) ((rd_T45 l1 x5_1).f2) ((rd_T45 l1 x5_1).f3) t316 _ (by first | ((repeat (first | exact HG_.out | apply GW.drewN | apply GW.drew | apply GW.alloc)); done) | exact GW.below HG_.out (by repeat (first | (with_reducible first | exact HB.out | apply below_alloc | apply pw_below_drewN | apply below_drew1) | exact HB.out))) A8.out).mono ?_); (rintro e w29 ⟨rfl, hb⟩); (refine ⟨_, rfl, ?_⟩); (have n0_ := Aside0.mk (below_step (by repeat (first | (with_reducible first | exact HB.out | apply below_alloc | apply pw_below_drewN | apply below_drew1) | exact HB.out)) hb)); clear HB; (have HB := n0_); clear n0_; (try clear hb); (try clear hb2); (try clear hk); (try clear hi); (refine hK.out _ _ ⟨((HB.out.cell (World.block_lt_of_cell? w _ hw313_0)).trans hw313_0), ((HB.out.cell (World.block_lt_of_cell? w _ hw313_1)).trans hw313_1), ((HB.out.cell (World.block_lt_of_cell? w _ hw313_2)).trans hw313_2), ((HB.out.cell (World.block_lt_of_cell? w _ hw313_3)).trans hw313_3), ((HB.out.cell (World.block_lt_of_cell? w _ hw315_0)).trans hw315_0), ((HB.out.cell (World.block_lt_of_cell? w _ hw315_1)).trans hw315_1), ((HB.out.cell (World.block_lt_of_cell? w _ hw315_2)).trans hw315_2), ((HB.out.cell (World.block_lt_of_cell? w _ hw315_3)).trans hw315_3)⟩ (fun hHeld => ?_)); clear hK K; (refine norm_ (a' := ?_) ?_ ?_); rotate_left
                · show Act.put _ (some 26) _ = _
                  (simp only [Act.put, sqArv10_, sqBrv10_, sqCrv10_, i64_w, i32_w]); rfl
                (refine pure_ (i := 10) (N := some 27) (v := ?_) (a' := ?_) brv10_38_11 rfl rfl (any_of HT_.out (by kernel_rfl)) (fun _ _ _ h => h) (Or.inl ⟨by rfl, ?_⟩) ?_ ?_); rotate_left
                · intro w'
                  go_simp; with_reducible rfl
                rotate_left
                · simp only [Act.put, sqArv10_, sqBrv10_, sqCrv10_, i64_w, i32_w]
                  rfl
                (refine pure_ (i := 11) (N := some 28) (v := ?_) (a' := ?_) brv10_38_12 rfl rfl (any_of HT_.out (by kernel_rfl)) (fun _ _ _ h => h) (Or.inl ⟨by rfl, ?_⟩) ?_ ?_); rotate_left
                · intro w'
                  go_simp; with_reducible rfl
                rotate_left
                · simp only [Act.put, sqArv10_, sqBrv10_, sqCrv10_, i64_w, i32_w]
                  rfl
                (refine pure_ (i := 12) (N := some 29) (v := undef) (a' := ?_) brv10_38_13 rfl rfl (any_of HT_.out (by kernel_rfl)) (fun _ _ _ h => h) (Or.inr ⟨by rfl, rfl⟩) ?_ ?_); rotate_left
                · simp only [Act.put, sqArv10_, sqBrv10_, sqCrv10_, i64_w, i32_w]
                  rfl
                (refine pure_ (i := 13) (N := some 30) (v := undef) (a' := ?_) brv10_38_14 rfl rfl (any_of HT_.out (by kernel_rfl)) (fun _ _ _ h => h) (Or.inr ⟨by rfl, rfl⟩) ?_ ?_); rotate_left
                · simp only [Act.put, sqArv10_, sqBrv10_, sqCrv10_, i64_w, i32_w]
                  rfl
                (refine pure_ (i := 14) (N := some 31) (v := undef) (a' := ?_) brv10_38_15 rfl rfl (any_of HT_.out (by kernel_rfl)) (fun _ _ _ h => h) (Or.inr ⟨by rfl, rfl⟩) ?_ ?_); rotate_left
                · simp only [Act.put, sqArv10_, sqBrv10_, sqCrv10_, i64_w, i32_w]
                  rfl
                (refine pure_ (i := 15) (N := some 32) (v := undef) (a' := ?_) brv10_38_16 rfl rfl (any_of HT_.out (by kernel_rfl)) (fun _ _ _ h => h) (Or.inr ⟨by rfl, rfl⟩) ?_ ?_); rotate_left
                · simp only [Act.put, sqArv10_, sqBrv10_, sqCrv10_, i64_w, i32_w]
                  rfl
                (refine pure_ (i := 16) (N := some 33) (v := undef) (a' := ?_) brv10_38_17 rfl rfl (any_of HT_.out (by kernel_rfl)) (fun _ _ _ h => h) (Or.inr ⟨by rfl, rfl⟩) ?_ ?_); rotate_left
                · simp only [Act.put, sqArv10_, sqBrv10_, sqCrv10_, i64_w, i32_w]
                  rfl
                (refine pure_ (i := 17) (N := some 34) (v := undef) (a' := ?_) brv10_38_18 rfl rfl (any_of HT_.out (by kernel_rfl)) (fun _ _ _ h => h) (Or.inr ⟨by rfl, rfl⟩) ?_ ?_); rotate_left
                · simp only [Act.put, sqArv10_, sqBrv10_, sqCrv10_, i64_w, i32_w]
                  rfl
                (refine pure_ (i := 18) (N := some 35) (v := undef) (a' := ?_) brv10_38_19 rfl rfl (any_of HT_.out (by kernel_rfl)) (fun _ _ _ h => h) (Or.inr ⟨by rfl, rfl⟩) ?_ ?_); rotate_left
                · simp only [Act.put, sqArv10_, sqBrv10_, sqCrv10_, i64_w, i32_w]
                  rfl
                (refine pure_ (i := 19) (N := some 36) (v := undef) (a' := ?_) brv10_38_20 rfl rfl (any_of HT_.out (by kernel_rfl)) (fun _ _ _ h => h) (Or.inr ⟨by rfl, rfl⟩) ?_ ?_); rotate_left
                · simp only [Act.put, sqArv10_, sqBrv10_, sqCrv10_, i64_w, i32_w]
                  rfl
                (refine pure_ (i := 20) (N := some 37) (v := undef) (a' := ?_) brv10_38_21 rfl rfl (any_of HT_.out (by kernel_rfl)) (fun _ _ _ h => h) (Or.inr ⟨by rfl, rfl⟩) ?_ ?_); rotate_left
                · simp only [Act.put, sqArv10_, sqBrv10_, sqCrv10_, i64_w, i32_w]
                  rfl
                (refine pure_ (i := 21) (N := some 38) (v := undef) (a' := ?_) brv10_38_22 rfl rfl (any_of HT_.out (by kernel_rfl)) (fun _ _ _ h => h) (Or.inr ⟨by rfl, rfl⟩) ?_ ?_); rotate_left
                · simp only [Act.put, sqArv10_, sqBrv10_, sqCrv10_, i64_w, i32_w]
                  rfl
                (refine pure_ (i := 22) (N := some 39) (v := undef) (a' := ?_) brv10_38_23 rfl rfl (any_of HT_.out (by kernel_rfl)) (fun _ _ _ h => h) (Or.inr ⟨by rfl, rfl⟩) ?_ ?_); rotate_left
                · simp only [Act.put, sqArv10_, sqBrv10_, sqCrv10_, i64_w, i32_w]
                  rfl
                (refine pure_ (i := 23) (N := some 40) (v := undef) (a' := ?_) brv10_38_24 rfl rfl (any_of HT_.out (by kernel_rfl)) (fun _ _ _ h => h) (Or.inr ⟨by rfl, rfl⟩) ?_ ?_); rotate_left
                · simp only [Act.put, sqArv10_, sqBrv10_, sqCrv10_, i64_w, i32_w]
                  rfl
                (refine pure_ (i := 24) (N := some 41) (v := undef) (a' := ?_) brv10_38_25 rfl rfl (any_of HT_.out (by kernel_rfl)) (fun _ _ _ h => h) (Or.inr ⟨by rfl, rfl⟩) ?_ ?_); rotate_left
                · simp only [Act.put, sqArv10_, sqBrv10_, sqCrv10_, i64_w, i32_w]
                  rfl
                (refine pure_ (i := 25) (N := some 42) (v := undef) (a' := ?_) brv10_38_26 rfl rfl (any_of HT_.out (by kernel_rfl)) (fun _ _ _ h => h) (Or.inr ⟨by rfl, rfl⟩) ?_ ?_); rotate_left
                · simp only [Act.put, sqArv10_, sqBrv10_, sqCrv10_, i64_w, i32_w]
                  rfl
                (refine pure_ (i := 26) (N := some 43) (v := undef) (a' := ?_) brv10_38_27 rfl rfl (any_of HT_.out (by kernel_rfl)) (fun _ _ _ h => h) (Or.inr ⟨by rfl, rfl⟩) ?_ ?_); rotate_left
                · simp only [Act.put, sqArv10_, sqBrv10_, sqCrv10_, i64_w, i32_w]
                  rfl
                (refine pure_ (i := 27) (N := some 44) (v := undef) (a' := ?_) brv10_38_28 rfl rfl (any_of HT_.out (by kernel_rfl)) (fun _ _ _ h => h) (Or.inr ⟨by rfl, rfl⟩) ?_ ?_); rotate_left
                · simp only [Act.put, sqArv10_, sqBrv10_, sqCrv10_, i64_w, i32_w]
                  rfl
                (refine pure_ (i := 28) (N := some 45) (v := undef) (a' := ?_) brv10_38_29 rfl rfl (any_of HT_.out (by kernel_rfl)) (fun _ _ _ h => h) (Or.inr ⟨by rfl, rfl⟩) ?_ ?_); rotate_left
                · simp only [Act.put, sqArv10_, sqBrv10_, sqCrv10_, i64_w, i32_w]
                  rfl
                (refine pure_ (i := 29) (N := some 46) (v := undef) (a' := ?_) brv10_38_30 rfl rfl (any_of HT_.out (by kernel_rfl)) (fun _ _ _ h => h) (Or.inr ⟨by rfl, rfl⟩) ?_ ?_); rotate_left
                · simp only [Act.put, sqArv10_, sqBrv10_, sqCrv10_, i64_w, i32_w]
                  rfl
                (refine pure_ (i := 30) (N := some 47) (v := undef) (a' := ?_) brv10_38_31 rfl rfl (any_of HT_.out (by kernel_rfl)) (fun _ _ _ h => h) (Or.inr ⟨by rfl, rfl⟩) ?_ ?_); rotate_left
                · simp only [Act.put, sqArv10_, sqBrv10_, sqCrv10_, i64_w, i32_w]
                  rfl
                (refine pure_ (i := 31) (N := some 48) (v := undef) (a' := ?_) brv10_38_32 rfl rfl (any_of HT_.out (by kernel_rfl)) (fun _ _ _ h => h) (Or.inr ⟨by rfl, rfl⟩) ?_ ?_); rotate_left
                · simp only [Act.put, sqArv10_, sqBrv10_, sqCrv10_, i64_w, i32_w]
                  rfl
                (refine pure_ (i := 32) (N := some 49) (v := undef) (a' := ?_) brv10_38_33 rfl rfl (any_of HT_.out (by kernel_rfl)) (fun _ _ _ h => h) (Or.inr ⟨by rfl, rfl⟩) ?_ ?_); rotate_left
                · simp only [Act.put, sqArv10_, sqBrv10_, sqCrv10_, i64_w, i32_w]
                  rfl
                (refine pure_ (i := 33) (N := some 50) (v := undef) (a' := ?_) brv10_38_34 rfl rfl (any_of HT_.out (by kernel_rfl)) (fun _ _ _ h => h) (Or.inr ⟨by rfl, rfl⟩) ?_ ?_); rotate_left
                · simp only [Act.put, sqArv10_, sqBrv10_, sqCrv10_, i64_w, i32_w]
                  rfl
                (refine pure_ (i := 34) (N := some 51) (v := undef) (a' := ?_) brv10_38_35 rfl rfl (any_of HT_.out (by kernel_rfl)) (fun _ _ _ h => h) (Or.inr ⟨by rfl, rfl⟩) ?_ ?_); rotate_left
                · simp only [Act.put, sqArv10_, sqBrv10_, sqCrv10_, i64_w, i32_w]
                  rfl
                (refine pure_ (i := 35) (N := some 52) (v := undef) (a' := ?_) brv10_38_36 rfl rfl (any_of HT_.out (by kernel_rfl)) (fun _ _ _ h => h) (Or.inr ⟨by rfl, rfl⟩) ?_ ?_); rotate_left
                · simp only [Act.put, sqArv10_, sqBrv10_, sqCrv10_, i64_w, i32_w]
                  rfl
                (refine pure_ (i := 36) (N := some 53) (v := undef) (a' := ?_) brv10_38_37 rfl rfl (any_of HT_.out (by kernel_rfl)) (fun _ _ _ h => h) (Or.inr ⟨by rfl, rfl⟩) ?_ ?_); rotate_left
                · simp only [Act.put, sqArv10_, sqBrv10_, sqCrv10_, i64_w, i32_w]
                  rfl
                (refine pure_ (i := 37) (N := some 54) (v := ?_) (a' := ?_) brv10_38_38 rfl rfl (any_of HT_.out (by kernel_rfl)) (fun _ _ _ h => h) (Or.inl ⟨by rfl, ?_⟩) ?_ ?_); rotate_left
                · intro w'
                  go_simp; with_reducible rfl
                rotate_left
                · simp only [Act.put, sqArv10_, sqBrv10_, sqCrv10_, i64_w, i32_w]
                  rfl
                (refine done_ (done_of HT_.out (by kernel_rfl)) ?_); (try go_wp2); (go_ret); (exact ⟨by first | rfl | (simp [errW_none, errW_some] <;> rfl) | (simp [*, errW_none, errW_some] <;> rfl), by repeat (first | (with_reducible first | exact HB.out | apply below_alloc | apply pw_below_drewN | apply below_drew1) | exact HB.out)⟩)
            · rw [if_neg c7] at H
              (exact absurd H (by simp))
          · rw [if_neg c5] at H
            (exact absurd H (by simp))
        · rw [if_neg c4] at H
          (have c4b0 : decide (x5_1 < (l0.length : Int)) = false := decide_eq_false c4); clear c4
          obtain rfl := Option.some.inj H
          go_wp2; (go_ret); (exact ⟨by first | rfl | (simp [errW_none, errW_some] <;> rfl) | (simp [*, errW_none, errW_some] <;> rfl), by repeat (first | (with_reducible first | exact HB.out | apply below_alloc | apply pw_below_drewN | apply below_drew1) | exact HB.out)⟩)
  · rw [if_neg c3] at H
    (have c3b0 : ((l0.length : Int) == (l1.length : Int)) = false := beq_eq_false_iff_ne.mpr c3); (have c3b1 : ((l0.length : Int) != (l1.length : Int)) = true := bne_iff_ne.mpr c3); (have c3b2 : (l0.length == l1.length) = false := by first | simpa using c3 | (simp at c3 ⊢; omega))
    obtain rfl := Option.some.inj H
    (go_enter Tryd.func30, Tryd.ntmps30); go_wp2; (go_ret); (exact ⟨by first | rfl | (simp [errW_none, errW_some] <;> rfl) | (simp [*, errW_none, errW_some] <;> rfl), by repeat (first | (with_reducible first | exact HB.out | apply below_alloc | apply pw_below_drewN | apply below_drew1) | exact HB.out)⟩)

end Go.Proofs.YtjnlppmodagegaaDoor.PPd
