/- Printed for this claim by a program over the kit's print: Go functions as Lean functions, each with the proof that the call comes to what the function says. -/
import Derived.Test.YtjnlppmodagegaaDoorYPPdx0
namespace Go.Proofs.YtjnlppmodagegaaDoor.PPd
open Go.RowKit Go.Proofs.YtjnlppmodagegaaDoorW.PrintWords Go.Proofs.YtjnlppmodagegaaDoorW.PrintLast Go.Proofs.YtjnlppmodagegaaDoorW.PrintMore
theorem sqAqs9_ {α : Type} (l : List α) (i : Nat) (a : α) : l.toArray.setIfInBounds i a = (l.set i a).toArray := List.setIfInBounds_toArray l i a
theorem sqBqs9_ {α : Type} (x a : α) (l : List α) : (x :: l).set 0 a = a :: l := rfl
theorem sqCqs9_ {α : Type} (x a : α) (l : List α) (n : Nat) : (x :: l).set (n + 1) a = x :: l.set n a := rfl
attribute [local go_sem] max2_int min2_int max_two min_two max_three min_three max_four min_four   -- for this text's walks alone
set_option linter.unusedVariables false
set_option linter.unusedSimpArgs false

/-! ### missivelaw20_few: function 29 -/
def missivelaw20_few.l0 : Nat → List (S45) → Int → Int → Option (Bool)
  | 0, _, _, _ => none
  | k + 1, x0, x3, x4 => if x4 < (x0.length : Int) then (if 0 ≤ x4 then (if (((rd_T45 x0 x4).f2).size : Int) > 2000 then (some false) else (if (((rd_T45 x0 x4).f1).size : Int) > 2000 then (some false) else (if (((rd_T45 x0 x4).f3).size : Int) > 2000 then (some false) else (missivelaw20_few.l0 k x0 (wrap64 ((wrap64 (x3 + (((rd_T45 x0 x4).f2).size : Int))) + (((rd_T45 x0 x4).f1).size : Int))) (wrap64 (x4 + 1)))))) else (none)) else (some (decide (x3 ≤ 3000)))
def missivelaw20_few.f (k : Nat) (l0 : List (S45)) : Option (Bool) := if (l0.length : Int) > 60 then (some false) else (missivelaw20_few.l0 k l0 0 0)
theorem missivelaw20_few.mono_l : ∀ k, (∀ y0 y1 y2, LeO (missivelaw20_few.l0 k y0 y1 y2) (missivelaw20_few.l0 (k + 1) y0 y1 y2))
  | 0 => fun _ _ _ r h => by simp [missivelaw20_few.l0] at h
  | k + 1 => by
    have ih0 := missivelaw20_few.mono_l k
    · intro y0 y1 y2
      unfold missivelaw20_few.l0
      repeat' first
      | (with_reducible exact ih0 _ _ _)
      | (with_reducible exact LeO.refl _)
      | (with_reducible exact LeO.none _)
      | (with_reducible refine LeO.ite ?_ ?_)
      | (with_reducible refine LeO.bind ?_ (fun _ => ?_))
      | exact ih0 _ _ _
      | exact LeO.none _
      | refine LeO.ite ?_ ?_
      | refine LeO.bind ?_ (fun _ => ?_)
theorem missivelaw20_few.mono : ∀ a0 k, LeO (missivelaw20_few.f k a0) (missivelaw20_few.f (k + 1) a0) := by
  intro a0 k
  have ih0 := missivelaw20_few.mono_l k
  unfold missivelaw20_few.f
  repeat' first
      | (with_reducible exact ih0 _ _ _)
      | (with_reducible exact LeO.refl _)
      | (with_reducible exact LeO.none _)
      | (with_reducible refine LeO.ite ?_ ?_)
      | (with_reducible refine LeO.bind ?_ (fun _ => ?_))
      | exact ih0 _ _ _
      | exact LeO.none _
      | refine LeO.ite ?_ ?_
      | refine LeO.bind ?_ (fun _ => ?_)
set_option maxHeartbeats 8000000 in
set_option maxRecDepth 100000 in
theorem missivelaw20_few.calls (k : Nat) (A0 : Option Addr) (c0 : Nat) (l0 : List (S45)) (r : Bool) (w : World) (hG : GW w) (hr0 : Kd.C k45 w A0 l0.length l0) (hc0 : l0.length ≤ c0) (h : missivelaw20_few.f k l0 = some r) :
    Calls Tryd.prog 29 #[.slice A0 l0.length c0] w fun e w' => e = .returned (.bool r) ∧ Drawn0 w w' := by
  (have HG_ := Aside0.mk hG); clear hG; (have HR0 := Aside0.mk hr0); (have HC0 := Aside0.mk hc0); clear hr0 hc0; (have H : (if (l0.length : Int) > 60 then (some false) else (missivelaw20_few.l0 k l0 0 0)) = some r := h); clear h
  by_cases c2 : (l0.length : Int) > 60
  · rw [if_pos c2] at H
    (have c2b0 : decide (60 < (l0.length : Int)) = true := decide_eq_true c2); (have c2b1 : decide (60 < l0.length) = true := decide_eq_true (by omega)); clear c2
    obtain rfl := Option.some.inj H
    (go_enter Tryd.func29, Tryd.ntmps29); go_wp2; (repeat (go_quiet (fail); try go_wp2)); (go_ret); (exact ⟨by first | rfl | (simp; done) | (simp [*]; done), by repeat (first | exact Drawn0.refl _ | apply Drawn0.step)⟩)
  · rw [if_neg c2] at H
    (have c2b0 : decide (60 < (l0.length : Int)) = false := decide_eq_false c2); (have c2b1 : decide (60 < l0.length) = false := decide_eq_false (by omega)); clear c2; (have H' := Aside0.mk H); clear H; (go_enter Tryd.func29, Tryd.ntmps29); go_wp2; (repeat (go_quiet (fail); try go_wp2)); (go_loopg [3, 4] k (fun kq v3 v4 w' => ∃ (x3_1 : Int) (x4_1 : Int), v3 = .int .i64 x3_1 ∧ v4 = .int .i64 x4_1 ∧ Aside0 (missivelaw20_few.l0 kq l0 x3_1 x4_1 = some r) ∧ Aside0 (kq ≤ k) ∧ Drawn0 w w'))
    case atStart => exact ⟨(0), (0), (by first | rfl | (simp; done) | (simp [*]; done)), (by first | rfl | (simp; done) | (simp [*]; done)), H', ⟨Nat.le_refl _⟩, by repeat (first | exact Drawn0.refl _ | apply Drawn0.step)⟩
    case round =>
      (clear H'); (try clear c2); (try clear c2b0); (try clear c2b1); (try clear p2)
      obtain ⟨x3_1, x4_1, rfl, rfl, HA, HK1, ⟨m1, rfl⟩⟩ := hrel
      cases gk with
      | zero => exact absurd HA.out (by simp [missivelaw20_few.l0])
      | succ k1 =>
        (have H := HA.out); clear HA; (simp only [missivelaw20_few.l0] at H)
        by_cases c3 : x4_1 < (l0.length : Int)
        · rw [if_pos c3] at H
          (have c3b0 : decide (x4_1 < (l0.length : Int)) = true := decide_eq_true c3); clear c3
          by_cases c4 : 0 ≤ x4_1
          · rw [if_pos c4] at H
            (have c4b0 : decide (0 ≤ x4_1) = true := decide_eq_true c4); clear c4
            by_cases c5 : (((rd_T45 l0 x4_1).f2).size : Int) > 2000
            · rw [if_pos c5] at H
              (have c5b0 : decide (2000 < (((rd_T45 l0 x4_1).f2).size : Int)) = true := decide_eq_true c5); (have c5b1 : decide (2000 < ((rd_T45 l0 x4_1).f2).size) = true := decide_eq_true (by omega)); clear c5
              obtain rfl := Option.some.inj H
              (have p308 : 0 ≤ (x4_1 : Int) := of_decide_eq_true (by first | (with_reducible assumption) | assumption)); (have q308 : x4_1 < (l0.length : Int) := of_decide_eq_true (by first | (with_reducible assumption) | assumption))
              obtain ⟨ad308, e308, hx308_0, hx308_1, hx308_2, hx308_3⟩ := at_T45 HR0.out x4_1 p308 q308
              cases e308
              (replace p308 := eq_true p308); (replace q308 := eq_true q308); go_wp2; (repeat (go_quiet (fail); try go_wp2)); (go_ret); (exact ⟨by first | rfl | (simp; done) | (simp [*]; done), by repeat (first | exact Drawn0.refl _ | apply Drawn0.step)⟩)
            · rw [if_neg c5] at H
              (have c5b0 : decide (2000 < (((rd_T45 l0 x4_1).f2).size : Int)) = false := decide_eq_false c5); (have c5b1 : decide (2000 < ((rd_T45 l0 x4_1).f2).size) = false := decide_eq_false (by omega)); clear c5
              by_cases c6 : (((rd_T45 l0 x4_1).f1).size : Int) > 2000
              · rw [if_pos c6] at H
                (have c6b0 : decide (2000 < (((rd_T45 l0 x4_1).f1).size : Int)) = true := decide_eq_true c6); (have c6b1 : decide (2000 < ((rd_T45 l0 x4_1).f1).size) = true := decide_eq_true (by omega)); clear c6
                obtain rfl := Option.some.inj H
                (have p308 : 0 ≤ (x4_1 : Int) := of_decide_eq_true (by first | (with_reducible assumption) | assumption)); (have q308 : x4_1 < (l0.length : Int) := of_decide_eq_true (by first | (with_reducible assumption) | assumption))
                obtain ⟨ad308, e308, hx308_0, hx308_1, hx308_2, hx308_3⟩ := at_T45 HR0.out x4_1 p308 q308
                cases e308
                (replace p308 := eq_true p308); (replace q308 := eq_true q308); (have p309 : 0 ≤ (x4_1 : Int) := of_decide_eq_true (by first | (with_reducible assumption) | assumption)); (have q309 : x4_1 < (l0.length : Int) := of_decide_eq_true (by first | (with_reducible assumption) | assumption))
                obtain ⟨ad309, e309, hx309_0, hx309_1, hx309_2, hx309_3⟩ := at_T45 HR0.out x4_1 p309 q309
                obtain rfl : ad308 = ad309 := (by injection e309)
                (replace p309 := eq_true p309); (replace q309 := eq_true q309); go_wp2; (repeat (go_quiet (fail); try go_wp2)); (go_ret); (exact ⟨by first | rfl | (simp; done) | (simp [*]; done), by repeat (first | exact Drawn0.refl _ | apply Drawn0.step)⟩)
              · rw [if_neg c6] at H
                (have c6b0 : decide (2000 < (((rd_T45 l0 x4_1).f1).size : Int)) = false := decide_eq_false c6); (have c6b1 : decide (2000 < ((rd_T45 l0 x4_1).f1).size) = false := decide_eq_false (by omega)); clear c6
                by_cases c7 : (((rd_T45 l0 x4_1).f3).size : Int) > 2000
                · rw [if_pos c7] at H
                  (have c7b0 : decide (2000 < (((rd_T45 l0 x4_1).f3).size : Int)) = true := decide_eq_true c7); (have c7b1 : decide (2000 < ((rd_T45 l0 x4_1).f3).size) = true := decide_eq_true (by omega)); clear c7
                  obtain rfl := Option.some.inj H
                  (have p308 : 0 ≤ (x4_1 : Int) := of_decide_eq_true (by first | (with_reducible assumption) | assumption)); (have q308 : x4_1 < (l0.length : Int) := of_decide_eq_true (by first | (with_reducible assumption) | assumption))
                  obtain ⟨ad308, e308, hx308_0, hx308_1, hx308_2, hx308_3⟩ := at_T45 HR0.out x4_1 p308 q308
                  cases e308
                  (replace p308 := eq_true p308); (replace q308 := eq_true q308); (have p309 : 0 ≤ (x4_1 : Int) := of_decide_eq_true (by first | (with_reducible assumption) | assumption)); (have q309 : x4_1 < (l0.length : Int) := of_decide_eq_true (by first | (with_reducible assumption) | assumption))
                  obtain ⟨ad309, e309, hx309_0, hx309_1, hx309_2, hx309_3⟩ := at_T45 HR0.out x4_1 p309 q309
                  obtain rfl : ad308 = ad309 := (by injection e309)
                  (replace p309 := eq_true p309); (replace q309 := eq_true q309); (have p310 : 0 ≤ (x4_1 : Int) := of_decide_eq_true (by first | (with_reducible assumption) | assumption)); (have q310 : x4_1 < (l0.length : Int) := of_decide_eq_true (by first | (with_reducible assumption) | assumption))
                  obtain ⟨ad310, e310, hx310_0, hx310_1, hx310_2, hx310_3⟩ := at_T45 HR0.out x4_1 p310 q310
                  obtain rfl : ad308 = ad310 := (by injection e310)
                  (replace p310 := eq_true p310); (replace q310 := eq_true q310); go_wp2; (repeat (go_quiet (fail); try go_wp2)); (go_ret); (exact ⟨by first | rfl | (simp; done) | (simp [*]; done), by repeat (first | exact Drawn0.refl _ | apply Drawn0.step)⟩)
                · rw [if_neg c7] at H
                  (have c7b0 : decide (2000 < (((rd_T45 l0 x4_1).f3).size : Int)) = false := decide_eq_false c7); (have c7b1 : decide (2000 < ((rd_T45 l0 x4_1).f3).size) = false := decide_eq_false (by omega)); clear c7; (have H' := Aside0.mk H); clear H; (have p308 : 0 ≤ (x4_1 : Int) := of_decide_eq_true (by first | (with_reducible assumption) | assumption)); (have q308 : x4_1 < (l0.length : Int) := of_decide_eq_true (by first | (with_reducible assumption) | assumption))
                  obtain ⟨ad308, e308, hx308_0, hx308_1, hx308_2, hx308_3⟩ := at_T45 HR0.out x4_1 p308 q308
                  cases e308
                  (replace p308 := eq_true p308); (replace q308 := eq_true q308); (have p309 : 0 ≤ (x4_1 : Int) := of_decide_eq_true (by first | (with_reducible assumption) | assumption)); (have q309 : x4_1 < (l0.length : Int) := of_decide_eq_true (by first | (with_reducible assumption) | assumption))
                  obtain ⟨ad309, e309, hx309_0, hx309_1, hx309_2, hx309_3⟩ := at_T45 HR0.out x4_1 p309 q309
                  obtain rfl : ad308 = ad309 := (by injection e309)
                  (replace p309 := eq_true p309); (replace q309 := eq_true q309); (have p310 : 0 ≤ (x4_1 : Int) := of_decide_eq_true (by first | (with_reducible assumption) | assumption)); (have q310 : x4_1 < (l0.length : Int) := of_decide_eq_true (by first | (with_reducible assumption) | assumption))
                  obtain ⟨ad310, e310, hx310_0, hx310_1, hx310_2, hx310_3⟩ := at_T45 HR0.out x4_1 p310 q310
                  obtain rfl : ad308 = ad310 := (by injection e310)
                  (replace p310 := eq_true p310); (replace q310 := eq_true q310); (have p311 : 0 ≤ (x4_1 : Int) := of_decide_eq_true (by first | (with_reducible assumption) | assumption)); (have q311 : x4_1 < (l0.length : Int) := of_decide_eq_true (by first | (with_reducible assumption) | assumption))
                  obtain ⟨ad311, e311, hx311_0, hx311_1, hx311_2, hx311_3⟩ := at_T45 HR0.out x4_1 p311 q311
                  obtain rfl : ad308 = ad311 := (by injection e311)
                  (replace p311 := eq_true p311); (replace q311 := eq_true q311); (have p312 : 0 ≤ (x4_1 : Int) := of_decide_eq_true (by first | (with_reducible assumption) | assumption)); (have q312 : x4_1 < (l0.length : Int) := of_decide_eq_true (by first | (with_reducible assumption) | assumption))
                  obtain ⟨ad312, e312, hx312_0, hx312_1, hx312_2, hx312_3⟩ := at_T45 HR0.out x4_1 p312 q312
                  obtain rfl : ad308 = ad312 := (by injection e312)
                  (replace p312 := eq_true p312); (replace q312 := eq_true q312); go_wp2; (repeat (go_quiet (fail); try go_wp2)); (go_roundg k1)
                  case measure => have := HK1.out; omega
                  case rel => exact ⟨(wrap64 ((wrap64 (x3_1 + (((rd_T45 l0 x4_1).f2).size : Int))) + (((rd_T45 l0 x4_1).f1).size : Int))), (wrap64 (x4_1 + 1)), (by first | rfl | (simp; done) | (simp [*]; done)), (by first | rfl | (simp; done) | (simp [*]; done)), H', ⟨by have := HK1.out; omega⟩, by repeat (first | exact Drawn0.refl _ | apply Drawn0.step)⟩
          · rw [if_neg c4] at H
            (exact absurd H (by simp))
        · rw [if_neg c3] at H
          (have c3b0 : decide (x4_1 < (l0.length : Int)) = false := decide_eq_false c3); clear c3
          obtain rfl := Option.some.inj H
          go_wp2; (repeat (go_quiet (fail); try go_wp2)); (go_ret); (exact ⟨by first | rfl | (simp; done) | (simp [*]; done), by repeat (first | exact Drawn0.refl _ | apply Drawn0.step)⟩)

end Go.Proofs.YtjnlppmodagegaaDoor.PPd
