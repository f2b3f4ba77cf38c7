/- Printed for this claim by a program over the kit's print: Go functions as Lean functions, each with the proof that the call comes to what the function says. -/
import Derived.Test.YtjnlppmodagegaaDoorVPPdx0
import Derived.Test.YtjnlppmodagegaaDoorVPPdx3
import Derived.Test.YtjnlppmodagegaaDoorVPPdx4
import Derived.Test.YtjnlppmodagegaaDoorVPPdx5
import Derived.Test.YtjnlppmodagegaaDoorVPPdx6
namespace Go.Proofs.YtjnlppmodagegaaDoor.PPd
open Go.RowKit Go.Proofs.YtjnlppmodagegaaDoorW.PrintWords Go.Proofs.YtjnlppmodagegaaDoorW.PrintLast Go.Proofs.YtjnlppmodagegaaDoorW.PrintMore
theorem sqAwj7_ {α : Type} (l : List α) (i : Nat) (a : α) : l.toArray.setIfInBounds i a = (l.set i a).toArray := List.setIfInBounds_toArray l i a
theorem sqBwj7_ {α : Type} (x a : α) (l : List α) : (x :: l).set 0 a = a :: l := rfl
theorem sqCwj7_ {α : Type} (x a : α) (l : List α) (n : Nat) : (x :: l).set (n + 1) a = x :: l.set n a := rfl
attribute [local go_sem] max2_int min2_int max_two min_two max_three min_three max_four min_four   -- for this text's walks alone
set_option linter.unusedVariables false
set_option linter.unusedSimpArgs false

/-! ### missivelaw20_short: function 21 -/
def missivelaw20_short.f (k : Nat) (a0 : ByteArray) : Option (Bool) := if (a0.size : Int) ≤ 2000 then ((text_Lines.f k a0).bind fun t228 => (some (decide ((t228.length : Int) ≤ 60)))) else (some false)
theorem missivelaw20_short.mono : ∀ a0 k, LeO (missivelaw20_short.f k a0) (missivelaw20_short.f (k + 1) a0) := by
  intro a0 k
  unfold missivelaw20_short.f
  repeat' first
      | (with_reducible exact text_Lines.mono _ _)
      | (with_reducible exact LeO.refl _)
      | (with_reducible exact LeO.none _)
      | (with_reducible refine LeO.ite ?_ ?_)
      | (with_reducible refine LeO.bind ?_ (fun _ => ?_))
      | exact text_Lines.mono _ _
      | exact LeO.none _
      | refine LeO.ite ?_ ?_
      | refine LeO.bind ?_ (fun _ => ?_)
set_option maxHeartbeats 8000000 in
set_option maxRecDepth 100000 in
theorem missivelaw20_short.calls (k : Nat) (a0 : ByteArray) (r : Bool) (w : World) (hG : GW w) (h : missivelaw20_short.f k a0 = some r) :
    Calls Tryd.prog 21 #[.string a0] w fun e w' => e = .returned (.bool r) ∧ Below w.heap.size w w' := by
  (have HG_ := Aside0.mk hG); clear hG; (have HB := Aside0.mk (Below.refl w.heap.size w)); (have H : (if (a0.size : Int) ≤ 2000 then ((text_Lines.f k a0).bind fun t228 => (some (decide ((t228.length : Int) ≤ 60)))) else (some false)) = some r := h); clear h
  by_cases c2 : (a0.size : Int) ≤ 2000
  · rw [if_pos c2] at H
    (have c2b0 : decide ((a0.size : Int) ≤ 2000) = true := decide_eq_true c2); (have c2b1 : decide (a0.size ≤ 2000) = true := decide_eq_true (by omega)); clear c2; (replace H := Option.bind_eq_some_iff.mp H)
    obtain ⟨t228, A30, H⟩ := H
    (replace H : (some (decide ((t228.length : Int) ≤ 60))) = some r := H); (have A3 := Aside0.mk A30); clear A30
    obtain rfl := Option.some.inj H
    (go_enter Tryd.func21, Tryd.ntmps21); (go_wp2_with (first | (go_at_call 22; (with_reducible refine (text_Lines.calls k a0 t228 _ (by first | ((repeat (first | exact HG_.out | apply GW.drewN | apply GW.drew | apply GW.alloc)); done) | exact GW.below HG_.out (by repeat (first | (with_reducible first | exact HB.out | apply below_alloc | apply pw_below_drewN | apply below_drew1) | exact HB.out))) A3.out).mono ?_); rintro e w4 ⟨v229, rfl, ho0, hb⟩; have n0_ := Aside0.mk (Kd.R_lower ho0 (below_size (by repeat (first | (with_reducible first | exact HB.out | apply below_alloc | apply pw_below_drewN | apply below_drew1) | exact HB.out)))); have n1_ := Aside0.mk (below_step (by repeat (first | (with_reducible first | exact HB.out | apply below_alloc | apply pw_below_drewN | apply below_drew1) | exact HB.out)) hb); clear HB; have HO230 := n0_; have HB := n1_; clear n0_ n1_; (try clear hb); (try clear hb2); (try clear hk); (try clear hi); (try clear ho0); obtain ⟨Ao5, co5, eo5⟩ := Kd.R_slice HO230.out; subst eo5))); (go_ret); (exact ⟨by first | rfl | (simp [errW_none, errW_some] <;> rfl) | (simp [*, errW_none, errW_some] <;> rfl), by repeat (first | (with_reducible first | exact HB.out | apply below_alloc | apply pw_below_drewN | apply below_drew1) | exact HB.out)⟩)
  · rw [if_neg c2] at H
    (have c2b0 : decide ((a0.size : Int) ≤ 2000) = false := decide_eq_false c2); (have c2b1 : decide (a0.size ≤ 2000) = false := decide_eq_false (by omega)); clear c2
    obtain rfl := Option.some.inj H
    (go_enter Tryd.func21, Tryd.ntmps21); go_wp2; (go_ret); (exact ⟨by first | rfl | (simp [errW_none, errW_some] <;> rfl) | (simp [*, errW_none, errW_some] <;> rfl), by repeat (first | (with_reducible first | exact HB.out | apply below_alloc | apply pw_below_drewN | apply below_drew1) | exact HB.out)⟩)

/-! ### missivelaw20_in: function 33 -/
def missivelaw20_in.l0 : Nat → List (S43) → Int → Int → Option (Bool)
  | 0, _, _, _ => none
  | k + 1, x0, x1, x5 => if x5 < (x0.length : Int) then (if 0 ≤ x5 then (if x1 ≥ ((rd_T43 x0 x5).f0) then (if x1 < ((rd_T43 x0 x5).f1) then (some true) else (missivelaw20_in.l0 k x0 x1 (wrap64 (x5 + 1)))) else (missivelaw20_in.l0 k x0 x1 (wrap64 (x5 + 1)))) else (none)) else (some false)
def missivelaw20_in.f (k : Nat) (l0 : List (S43)) (a1 : Int) : Option (Bool) := missivelaw20_in.l0 k l0 a1 0
theorem missivelaw20_in.mono_l : ∀ k, (∀ y0 y1 y2, LeO (missivelaw20_in.l0 k y0 y1 y2) (missivelaw20_in.l0 (k + 1) y0 y1 y2))
  | 0 => fun _ _ _ r h => by simp [missivelaw20_in.l0] at h
  | k + 1 => by
    have ih0 := missivelaw20_in.mono_l k
    · intro y0 y1 y2
      unfold missivelaw20_in.l0
      repeat' first
      | (with_reducible exact ih0 _ _ _)
      | (with_reducible exact LeO.refl _)
      | (with_reducible exact LeO.none _)
      | (with_reducible refine LeO.ite ?_ ?_)
      | (with_reducible refine LeO.bind ?_ (fun _ => ?_))
      | exact ih0 _ _ _
      | exact LeO.none _
      | refine LeO.ite ?_ ?_
      | refine LeO.bind ?_ (fun _ => ?_)
theorem missivelaw20_in.mono : ∀ a0 a1 k, LeO (missivelaw20_in.f k a0 a1) (missivelaw20_in.f (k + 1) a0 a1) := by
  intro a0 a1 k
  have ih0 := missivelaw20_in.mono_l k
  unfold missivelaw20_in.f
  repeat' first
      | (with_reducible exact ih0 _ _ _)
      | (with_reducible exact LeO.refl _)
      | (with_reducible exact LeO.none _)
      | (with_reducible refine LeO.ite ?_ ?_)
      | (with_reducible refine LeO.bind ?_ (fun _ => ?_))
      | exact ih0 _ _ _
      | exact LeO.none _
      | refine LeO.ite ?_ ?_
      | refine LeO.bind ?_ (fun _ => ?_)
set_option maxHeartbeats 8000000 in
set_option maxRecDepth 100000 in
theorem missivelaw20_in.calls (k : Nat) (A0 : Option Addr) (c0 : Nat) (l0 : List (S43)) (a1 : Int) (r : Bool) (w : World) (hG : GW w) (hr0 : Kd.C k43 w A0 l0.length l0) (hc0 : l0.length ≤ c0) (h : missivelaw20_in.f k l0 a1 = some r) :
    Calls Tryd.prog 33 #[.slice A0 l0.length c0, .int .i64 a1] w fun e w' => e = .returned (.bool r) ∧ Drawn0 w w' := by
  (have HG_ := Aside0.mk hG); clear hG; (have HR0 := Aside0.mk hr0); (have HC0 := Aside0.mk hc0); clear hr0 hc0; (have H : (missivelaw20_in.l0 k l0 a1 0) = some r := h); clear h; (have H' := Aside0.mk H); clear H; (go_enter Tryd.func33, Tryd.ntmps33); go_wp2; (go_loopg [5] k (fun kq v5 w' => ∃ (x5_1 : Int), v5 = .int .i64 x5_1 ∧ Aside0 (missivelaw20_in.l0 kq l0 a1 x5_1 = some r) ∧ Aside0 (kq ≤ k) ∧ Drawn0 w w'))
  case atStart => exact ⟨(0), (by first | rfl | (simp; done) | (simp [*]; done)), H', ⟨Nat.le_refl _⟩, by repeat (first | exact Drawn0.refl _ | apply Drawn0.step)⟩
  case round =>
    (clear H'); (try clear p2)
    obtain ⟨x5_1, rfl, HA, HK1, ⟨m1, rfl⟩⟩ := hrel
    cases gk with
    | zero => exact absurd HA.out (by simp [missivelaw20_in.l0])
    | succ k1 =>
      (have H := HA.out); clear HA; (simp only [missivelaw20_in.l0] at H)
      by_cases c3 : x5_1 < (l0.length : Int)
      · rw [if_pos c3] at H
        (have c3b0 : decide (x5_1 < (l0.length : Int)) = true := decide_eq_true c3); clear c3
        by_cases c4 : 0 ≤ x5_1
        · rw [if_pos c4] at H
          (have c4b0 : decide (0 ≤ x5_1) = true := decide_eq_true c4); clear c4
          by_cases c5 : a1 ≥ ((rd_T43 l0 x5_1).f0)
          · rw [if_pos c5] at H
            (have c5b0 : decide (((rd_T43 l0 x5_1).f0) ≤ a1) = true := decide_eq_true c5); clear c5
            by_cases c6 : a1 < ((rd_T43 l0 x5_1).f1)
            · rw [if_pos c6] at H
              (have c6b0 : decide (a1 < ((rd_T43 l0 x5_1).f1)) = true := decide_eq_true c6); clear c6
              obtain rfl := Option.some.inj H
              (have p231 : 0 ≤ (x5_1 : Int) := of_decide_eq_true (by first | (with_reducible assumption) | assumption)); (have q231 : x5_1 < (l0.length : Int) := of_decide_eq_true (by first | (with_reducible assumption) | assumption))
              obtain ⟨ad231, e231, hx231_0, hx231_1⟩ := at_T43 HR0.out x5_1 p231 q231
              cases e231
              (replace p231 := eq_true p231); (replace q231 := eq_true q231); (have p232 : 0 ≤ (x5_1 : Int) := of_decide_eq_true (by first | (with_reducible assumption) | assumption)); (have q232 : x5_1 < (l0.length : Int) := of_decide_eq_true (by first | (with_reducible assumption) | assumption))
              obtain ⟨ad232, e232, hx232_0, hx232_1⟩ := at_T43 HR0.out x5_1 p232 q232
              obtain rfl : ad231 = ad232 := (by injection e232)
              (replace p232 := eq_true p232); (replace q232 := eq_true q232); go_wp2; (go_ret); (exact ⟨by first | rfl | (simp; done) | (simp [*]; done), by repeat (first | exact Drawn0.refl _ | apply Drawn0.step)⟩)
            · rw [if_neg c6] at H
              (have c6b0 : decide (a1 < ((rd_T43 l0 x5_1).f1)) = false := decide_eq_false c6); clear c6; (have H' := Aside0.mk H); clear H; (have p231 : 0 ≤ (x5_1 : Int) := of_decide_eq_true (by first | (with_reducible assumption) | assumption)); (have q231 : x5_1 < (l0.length : Int) := of_decide_eq_true (by first | (with_reducible assumption) | assumption))
              obtain ⟨ad231, e231, hx231_0, hx231_1⟩ := at_T43 HR0.out x5_1 p231 q231
              cases e231
              (replace p231 := eq_true p231); (replace q231 := eq_true q231); (have p232 : 0 ≤ (x5_1 : Int) := of_decide_eq_true (by first | (with_reducible assumption) | assumption)); (have q232 : x5_1 < (l0.length : Int) := of_decide_eq_true (by first | (with_reducible assumption) | assumption))
              obtain ⟨ad232, e232, hx232_0, hx232_1⟩ := at_T43 HR0.out x5_1 p232 q232
              obtain rfl : ad231 = ad232 := (by injection e232)
              (replace p232 := eq_true p232); (replace q232 := eq_true q232); go_wp2; (go_roundg k1)
              case measure => have := HK1.out; omega
              case rel => exact ⟨(wrap64 (x5_1 + 1)), (by first | rfl | (simp; done) | (simp [*]; done)), H', ⟨by have := HK1.out; omega⟩, by repeat (first | exact Drawn0.refl _ | apply Drawn0.step)⟩
          · rw [if_neg c5] at H
            (have c5b0 : decide (((rd_T43 l0 x5_1).f0) ≤ a1) = false := decide_eq_false c5); clear c5; (have H' := Aside0.mk H); clear H; (have p231 : 0 ≤ (x5_1 : Int) := of_decide_eq_true (by first | (with_reducible assumption) | assumption)); (have q231 : x5_1 < (l0.length : Int) := of_decide_eq_true (by first | (with_reducible assumption) | assumption))
            obtain ⟨ad231, e231, hx231_0, hx231_1⟩ := at_T43 HR0.out x5_1 p231 q231
            cases e231
            (replace p231 := eq_true p231); (replace q231 := eq_true q231); go_wp2; (go_roundg k1)
            case measure => have := HK1.out; omega
            case rel => exact ⟨(wrap64 (x5_1 + 1)), (by first | rfl | (simp; done) | (simp [*]; done)), H', ⟨by have := HK1.out; omega⟩, by repeat (first | exact Drawn0.refl _ | apply Drawn0.step)⟩
        · rw [if_neg c4] at H
          (exact absurd H (by simp))
      · rw [if_neg c3] at H
        (have c3b0 : decide (x5_1 < (l0.length : Int)) = false := decide_eq_false c3); clear c3
        obtain rfl := Option.some.inj H
        go_wp2; (go_ret); (exact ⟨by first | rfl | (simp; done) | (simp [*]; done), by repeat (first | exact Drawn0.refl _ | apply Drawn0.step)⟩)

/-! ### text_Unlines: function 35 -/
def text_Unlines.one (x : ByteArray) : List UInt8 := x.data.toList ++ [10]
def text_Unlines.s (l : List ByteArray) : List UInt8 := l.flatMap text_Unlines.one
def text_Unlines.f (l0 : List ByteArray) : Option ByteArray := if (text_Unlines.s l0).length ≤ 70368744177664 then some ⟨(text_Unlines.s l0).toArray⟩ else none
set_option maxHeartbeats 4000000 in
theorem text_Unlines.calls (A0 : Option Addr) (c0 : Nat) (l0 : List ByteArray) (r : ByteArray) (w : World) (hG : GW w) (hr0 : Kd.C Kd.string w A0 l0.length l0) (hc0 : l0.length ≤ c0) (h : text_Unlines.f l0 = some r) :
    Calls Tryd.prog 35 #[.slice A0 l0.length c0] w fun e w' => e = .returned (.string r) ∧ Below w.heap.size w w' := by
  (unfold text_Unlines.f at h)
  by_cases hs : (text_Unlines.s l0).length ≤ 70368744177664
  case neg => rw [if_neg hs] at h; cases h
  (rw [if_pos hs] at h)
  obtain rfl := Option.some.inj h
  (have HR := Aside0.mk hr0); (have HS := Aside0.mk hs)
  have hlen : l0.length ≤ (text_Unlines.s l0).length := by
    clear hs h hc0 hr0 HR HS; (unfold text_Unlines.s)
    induction l0 with
    | nil => exact Nat.zero_le _
    | cons x l ih => rw [List.flatMap_cons, List.length_append, List.length_cons]; have : 1 ≤ (text_Unlines.one x).length := by simp [text_Unlines.one]
                     (omega)
  (have hl : l0.length ≤ 70368744177664 := by omega); clear hr0 hs h hG hc0 hlen
  obtain ⟨n, hn⟩ : ∃ n, l0.length = n := ⟨_, rfl⟩
  (have HN := Aside0.mk hn); (rw [hn] at HR hl ⊢); clear hn; (go_enter Tryd.func35, Tryd.ntmps35); go_wp2; (go_loopw [8] (fun i wr => ∃ k : Nat, k ≤ n ∧ i = .int .i64 (k : Int) ∧ Bld.Bld wr w.heap.size w.heap.size (text_Unlines.s (l0.take k)) ∧ Below w.heap.size w wr) (fun i _ => n - (intOf i).toNat))
  case atStart => exact ⟨0, Nat.zero_le _, rfl, Bld.Bld.new w _ (Nat.le_refl _), (Below.refl _ _).alloc (Nat.le_refl _) _⟩
  case round =>
    obtain ⟨k, hk, rfl, hb, hw⟩ := hrel
    (have hz := hw.size)
    by_cases hlt : k < n
    · obtain ⟨ad, rfl, hc⟩ := at_str (Kd.C_below HR.out hw) k hlt
      (have ht := flat_take text_Unlines.one l0 k ByteArray.empty (by rw [HN.out]; exact hlt)); (have hle := flat_le text_Unlines.one l0 (k + 1))
      have hle2 : (text_Unlines.s (l0.take k) ++ (l0[k]?.getD ByteArray.empty).data.toList ++ [10]).length ≤ 70368744177664 := by
        (have h1 := HS.out); (unfold text_Unlines.s at h1 ⊢); (rw [List.append_assoc]); (rw [ht] at hle); (exact Nat.le_trans hle h1)
      have e3 : text_Unlines.s (l0.take k) ++ (l0[k]?.getD ByteArray.empty).data.toList ++ [10] = text_Unlines.s (l0.take (k + 1)) := by
        (unfold text_Unlines.s; rw [ht, List.append_assoc]; rfl)
      (have HT := Aside0.mk e3); clear ht hle e3
      generalize l0[k]?.getD ByteArray.empty = x at *
      (rw [List.length_append, List.length_append, data_length] at hle2); (have hle3 : (text_Unlines.s (l0.take k)).length + x.size ≤ 140737488355328 := by omega); (have hle4 : (text_Unlines.s (l0.take k) ++ x.data.toList).length + 1 ≤ 140737488355328 := by rw [List.length_append, data_length]; simp only [List.length_singleton] at hle2; omega); (have x3 : (k : Int) < n := by omega); clear hle2; (go_wp2_with fail); (refine (Bld.writeString_any w.heap.size w.heap.size _ x _ hb hle3 hz).mono ?_); (rintro e w1 ⟨rfl, hb1, hw1, hk1⟩); (have hw2 := hw.trans hw1); (have hz1 := hw2.size); (go_wp2_with fail); (refine (Bld.writeByte_any w.heap.size w.heap.size _ 10 10 rfl _ hb1 hle4 hz1).mono ?_); (rintro e w2 ⟨rfl, hb2, hw3, hk2⟩); go_wp2; (go_roundw)
      case rel => exact ⟨k + 1, by omega, by go_num, by rw [← HT.out]; exact hb2, hw2.trans hw3⟩
      case measure => simp [intOf]; omega
    · have hkn : k = n := by omega
      (have he : l0.take k = l0 := List.take_of_length_le (by rw [HN.out]; omega)); (rw [he] at hb); clear he hkn; (go_wp2_with fail); (refine (Bld.string_any w.heap.size w.heap.size _ _ hb hz).mono ?_); (rintro e w1 ⟨rfl, hw1⟩); go_wp2; (go_ret); (exact ⟨rfl, hw.trans hw1⟩)

/-! ### missivelaw20_PieceTexts: function 9 -/
mutual
def missivelaw20_PieceTexts.j0 : Nat → ByteArray → ByteArray → ByteArray → List (S43) → Bool → Bool → Option (Bool)
  | 0, _, _, _, _, _, _ => none
  | k + 1, x0, x1, x2, x3, x9, x31 => if x31 = true then (some x9) else ((text_Lines.f k x2).bind fun t235 => (missivelaw20_PieceTexts.l0 k x0 x1 x2 x3 x9 t235 (⟨#[]⟩ : ByteArray) 0))
def missivelaw20_PieceTexts.l0 : Nat → ByteArray → ByteArray → ByteArray → List (S43) → Bool → List ByteArray → ByteArray → Int → Option (Bool)
  | 0, _, _, _, _, _, _, _, _ => none
  | k + 1, x0, x1, x2, x3, x9, x10, x11, x12 => if x12 < (x10.length : Int) then ((missivelaw20_in.f k x3 x12).bind fun t238 => (if t238 = true then (if x11.size + 11 ≤ 9223372036854775807 then (missivelaw20_PieceTexts.l0 k x0 x1 x2 x3 x9 x10 (x11 ++ (⟨#[91, 114, 101, 100, 97, 99, 116, 101, 100, 93, 10]⟩ : ByteArray)) (wrap64 (x12 + 1))) else (none)) else (if 0 ≤ x12 then (if x11.size + (rdOf ByteArray.empty x10 x12).size ≤ 9223372036854775807 then (if (x11 ++ (rdOf ByteArray.empty x10 x12)).size + 1 ≤ 9223372036854775807 then (missivelaw20_PieceTexts.l0 k x0 x1 x2 x3 x9 x10 ((x11 ++ (rdOf ByteArray.empty x10 x12)) ++ (⟨#[10]⟩ : ByteArray)) (wrap64 (x12 + 1))) else (none)) else (none)) else (none)))) else (if x9 = true then ((piece_Show.f k x0 x1 x2 x3).bind fun t240 => ((piece_Text.f t240).bind fun t243 => (if t243.toList = x11.toList then ((piece_Show.f k x0 x1 x2 ([] : List (S43))).bind fun t244 => ((piece_Text.f t244).bind fun t247 => ((text_Unlines.f x10).bind fun t248 => (some (t247.toList == t248.toList))))) else (some false)))) else (some false))
end
def missivelaw20_PieceTexts.f (k : Nat) (a0 : ByteArray) (a1 : ByteArray) (a2 : ByteArray) (l3 : List (S43)) : Option (Bool) := (missivelaw20_small.f k).bind fun t233 => (if (a0.size : Int) > 200 then (missivelaw20_PieceTexts.j0 k a0 a1 a2 l3 t233 true) else (if (a1.size : Int) > 200 then (missivelaw20_PieceTexts.j0 k a0 a1 a2 l3 t233 true) else ((missivelaw20_short.f k a2).bind fun t234 => (if t234 = true then (missivelaw20_PieceTexts.j0 k a0 a1 a2 l3 t233 (decide ((l3.length : Int) > 20))) else (missivelaw20_PieceTexts.j0 k a0 a1 a2 l3 t233 true)))))
theorem missivelaw20_PieceTexts.mono_l : ∀ k, (∀ y0 y1 y2 y3 y4 y5, LeO (missivelaw20_PieceTexts.j0 k y0 y1 y2 y3 y4 y5) (missivelaw20_PieceTexts.j0 (k + 1) y0 y1 y2 y3 y4 y5)) ∧ (∀ y0 y1 y2 y3 y4 y5 y6 y7, LeO (missivelaw20_PieceTexts.l0 k y0 y1 y2 y3 y4 y5 y6 y7) (missivelaw20_PieceTexts.l0 (k + 1) y0 y1 y2 y3 y4 y5 y6 y7))
  | 0 => ⟨fun _ _ _ _ _ _ r h => by simp [missivelaw20_PieceTexts.j0] at h, fun _ _ _ _ _ _ _ _ r h => by simp [missivelaw20_PieceTexts.l0] at h⟩
  | k + 1 => by
    obtain ⟨ih0, ih1⟩ := missivelaw20_PieceTexts.mono_l k
    refine ⟨?_, ?_⟩
    · intro y0 y1 y2 y3 y4 y5
      unfold missivelaw20_PieceTexts.j0
      repeat' first
      | (with_reducible exact ih0 _ _ _ _ _ _)
      | (with_reducible exact ih1 _ _ _ _ _ _ _ _)
      | (with_reducible exact missivelaw20_in.mono _ _ _)
      | (with_reducible exact missivelaw20_short.mono _ _)
      | (with_reducible exact missivelaw20_small.mono _)
      | (with_reducible exact piece_Show.mono _ _ _ _ _)
      | (with_reducible exact text_Lines.mono _ _)
      | (with_reducible exact LeO.refl _)
      | (with_reducible exact LeO.none _)
      | (with_reducible refine LeO.ite ?_ ?_)
      | (with_reducible refine LeO.bind ?_ (fun _ => ?_))
      | exact ih0 _ _ _ _ _ _
      | exact ih1 _ _ _ _ _ _ _ _
      | exact missivelaw20_in.mono _ _ _
      | exact missivelaw20_short.mono _ _
      | exact missivelaw20_small.mono _
      | exact piece_Show.mono _ _ _ _ _
      | exact text_Lines.mono _ _
      | exact LeO.none _
      | refine LeO.ite ?_ ?_
      | refine LeO.bind ?_ (fun _ => ?_)
    · intro y0 y1 y2 y3 y4 y5 y6 y7
      unfold missivelaw20_PieceTexts.l0
      repeat' first
      | (with_reducible exact ih0 _ _ _ _ _ _)
      | (with_reducible exact ih1 _ _ _ _ _ _ _ _)
      | (with_reducible exact missivelaw20_in.mono _ _ _)
      | (with_reducible exact missivelaw20_short.mono _ _)
      | (with_reducible exact missivelaw20_small.mono _)
      | (with_reducible exact piece_Show.mono _ _ _ _ _)
      | (with_reducible exact text_Lines.mono _ _)
      | (with_reducible exact LeO.refl _)
      | (with_reducible exact LeO.none _)
      | (with_reducible refine LeO.ite ?_ ?_)
      | (with_reducible refine LeO.bind ?_ (fun _ => ?_))
      | exact ih0 _ _ _ _ _ _
      | exact ih1 _ _ _ _ _ _ _ _
      | exact missivelaw20_in.mono _ _ _
      | exact missivelaw20_short.mono _ _
      | exact missivelaw20_small.mono _
      | exact piece_Show.mono _ _ _ _ _
      | exact text_Lines.mono _ _
      | exact LeO.none _
      | refine LeO.ite ?_ ?_
      | refine LeO.bind ?_ (fun _ => ?_)
theorem missivelaw20_PieceTexts.mono : ∀ a0 a1 a2 a3 k, LeO (missivelaw20_PieceTexts.f k a0 a1 a2 a3) (missivelaw20_PieceTexts.f (k + 1) a0 a1 a2 a3) := by
  intro a0 a1 a2 a3 k
  obtain ⟨ih0, ih1⟩ := missivelaw20_PieceTexts.mono_l k
  unfold missivelaw20_PieceTexts.f
  repeat' first
      | (with_reducible exact ih0 _ _ _ _ _ _)
      | (with_reducible exact ih1 _ _ _ _ _ _ _ _)
      | (with_reducible exact missivelaw20_in.mono _ _ _)
      | (with_reducible exact missivelaw20_short.mono _ _)
      | (with_reducible exact missivelaw20_small.mono _)
      | (with_reducible exact piece_Show.mono _ _ _ _ _)
      | (with_reducible exact text_Lines.mono _ _)
      | (with_reducible exact LeO.refl _)
      | (with_reducible exact LeO.none _)
      | (with_reducible refine LeO.ite ?_ ?_)
      | (with_reducible refine LeO.bind ?_ (fun _ => ?_))
      | exact ih0 _ _ _ _ _ _
      | exact ih1 _ _ _ _ _ _ _ _
      | exact missivelaw20_in.mono _ _ _
      | exact missivelaw20_short.mono _ _
      | exact missivelaw20_small.mono _
      | exact piece_Show.mono _ _ _ _ _
      | exact text_Lines.mono _ _
      | exact LeO.none _
      | refine LeO.ite ?_ ?_
      | refine LeO.bind ?_ (fun _ => ?_)
set_option maxHeartbeats 8000000 in
set_option maxRecDepth 100000 in
theorem missivelaw20_PieceTexts.calls (k : Nat) (a0 : ByteArray) (a1 : ByteArray) (a2 : ByteArray) (A3 : Option Addr) (c3 : Nat) (l3 : List (S43)) (r : Bool) (w : World) (hG : GW w) (hr3 : Kd.C k43 w A3 l3.length l3) (hc3 : l3.length ≤ c3) (h : missivelaw20_PieceTexts.f k a0 a1 a2 l3 = some r) :
    Calls Tryd.prog 9 #[.string a0, .string a1, .string a2, .slice A3 l3.length c3] w fun e w' => e = .returned (.bool r) ∧ Below w.heap.size w w' := by
  (have HG_ := Aside0.mk hG); clear hG; (have HR3 := Aside0.mk hr3); (have HC3 := Aside0.mk hc3); clear hr3 hc3; (have HB := Aside0.mk (Below.refl w.heap.size w)); (have H : ((missivelaw20_small.f k).bind fun t233 => (if (a0.size : Int) > 200 then (missivelaw20_PieceTexts.j0 k a0 a1 a2 l3 t233 true) else (if (a1.size : Int) > 200 then (missivelaw20_PieceTexts.j0 k a0 a1 a2 l3 t233 true) else ((missivelaw20_short.f k a2).bind fun t234 => (if t234 = true then (missivelaw20_PieceTexts.j0 k a0 a1 a2 l3 t233 (decide ((l3.length : Int) > 20))) else (missivelaw20_PieceTexts.j0 k a0 a1 a2 l3 t233 true)))))) = some r := h); clear h; (replace H := Option.bind_eq_some_iff.mp H)
  obtain ⟨t233, A50, H⟩ := H
  (replace H : (if (a0.size : Int) > 200 then (missivelaw20_PieceTexts.j0 k a0 a1 a2 l3 t233 true) else (if (a1.size : Int) > 200 then (missivelaw20_PieceTexts.j0 k a0 a1 a2 l3 t233 true) else ((missivelaw20_short.f k a2).bind fun t234 => (if t234 = true then (missivelaw20_PieceTexts.j0 k a0 a1 a2 l3 t233 (decide ((l3.length : Int) > 20))) else (missivelaw20_PieceTexts.j0 k a0 a1 a2 l3 t233 true))))) = some r := H); (have A5 := Aside0.mk A50); clear A50; (have HC6 := Aside0.mk H); clear H; (go_enter Tryd.func9, Tryd.ntmps9); (go_upto_region 2 with (first | ((with_reducible refine gate_callee (f := 20) rfl ?_); refine goesL_ (some 13) rfl rfl Tryd.func20 (by kernel_rfl) rfl #[] rfl (by (try simp only [List.map_toArray, List.map_cons, List.map_nil]); first | done | rfl | (simp only [List.length_drop, List.length_take]; rfl)) ?_; (with_reducible refine (missivelaw20_small.calls k  t233 _ (by first | ((repeat (first | exact HG_.out | apply GW.drewN | apply GW.drew | apply GW.alloc)); done) | exact GW.below HG_.out (by repeat (first | (with_reducible first | exact HB.out | apply below_alloc | apply pw_below_drewN | apply below_drew1) | exact HB.out))) A5.out).mono ?_); rintro e w7 ⟨rfl, hb⟩; refine ⟨_, rfl, ?_⟩; have n0_ := Aside0.mk (below_step (by repeat (first | (with_reducible first | exact HB.out | apply below_alloc | apply pw_below_drewN | apply below_drew1) | exact HB.out)) hb); clear HB; have HB := n0_; clear n0_; (try clear hb); (try clear hb2); (try clear hk); (try clear hi)))); (try simp only [Act.put, sqAwj7_, sqBwj7_, sqCwj7_])
  go_cut [31] (fun v31 wc => ∃ (kq : Nat) (x31_5 : Bool), v31 = .bool x31_5 ∧ Aside0 (missivelaw20_PieceTexts.j0 kq a0 a1 a2 l3 t233 x31_5 = some r) ∧ Aside0 (kq ≤ k) ∧ Aside0 (Below w.heap.size w wc))
  case first =>
    (have H := HC6.out); clear HC6
    by_cases c8 : (a0.size : Int) > 200
    · rw [if_pos c8] at H
      (have c8b0 : decide (200 < (a0.size : Int)) = true := decide_eq_true c8); (have c8b1 : decide (200 < a0.size) = true := decide_eq_true (by omega)); clear c8; (first | rw [c8b0] | (simp only [i64_w, i32_w]; rw [c8b0]) | skip); (have H' := Aside0.mk H); clear H; go_wp2; (go_meet)
      case rel => exact ⟨_, (true), (by first | rfl | (simp; done) | (simp [*]; done)), H', ⟨by first | omega | exact Nat.le_refl _⟩, ⟨by repeat (first | (with_reducible first | exact HB.out | apply below_alloc | apply pw_below_drewN | apply below_drew1) | exact HB.out)⟩⟩
    · rw [if_neg c8] at H
      (have c8b0 : decide (200 < (a0.size : Int)) = false := decide_eq_false c8); (have c8b1 : decide (200 < a0.size) = false := decide_eq_false (by omega)); clear c8; (first | rw [c8b0] | (simp only [i64_w, i32_w]; rw [c8b0]) | skip)
      by_cases c9 : (a1.size : Int) > 200
      · rw [if_pos c9] at H
        (have c9b0 : decide (200 < (a1.size : Int)) = true := decide_eq_true c9); (have c9b1 : decide (200 < a1.size) = true := decide_eq_true (by omega)); clear c9; (have H' := Aside0.mk H); clear H; go_wp2; (go_meet)
        case rel => exact ⟨_, (true), (by first | rfl | (simp; done) | (simp [*]; done)), H', ⟨by first | omega | exact Nat.le_refl _⟩, ⟨by repeat (first | (with_reducible first | exact HB.out | apply below_alloc | apply pw_below_drewN | apply below_drew1) | exact HB.out)⟩⟩
      · rw [if_neg c9] at H
        (have c9b0 : decide (200 < (a1.size : Int)) = false := decide_eq_false c9); (have c9b1 : decide (200 < a1.size) = false := decide_eq_false (by omega)); clear c9; (replace H := Option.bind_eq_some_iff.mp H)
        obtain ⟨t234, A100, H⟩ := H
        (replace H : (if t234 = true then (missivelaw20_PieceTexts.j0 k a0 a1 a2 l3 t233 (decide ((l3.length : Int) > 20))) else (missivelaw20_PieceTexts.j0 k a0 a1 a2 l3 t233 true)) = some r := H); (have A10 := Aside0.mk A100); clear A100
        by_cases c11 : t234 = true
        · subst c11
          (have H1 : (missivelaw20_PieceTexts.j0 k a0 a1 a2 l3 t233 (decide ((l3.length : Int) > 20))) = some r := by rw [if_pos rfl] at H; exact H); clear H; (have H := H1); clear H1; (have H' := Aside0.mk H); clear H; (go_wp2_with (first | (go_at_call 21; (with_reducible refine (missivelaw20_short.calls k a2 true _ (by first | ((repeat (first | exact HG_.out | apply GW.drewN | apply GW.drew | apply GW.alloc)); done) | exact GW.below HG_.out (by repeat (first | (with_reducible first | exact HB.out | apply below_alloc | apply pw_below_drewN | apply below_drew1) | exact HB.out))) A10.out).mono ?_); rintro e w12 ⟨rfl, hb⟩; have n0_ := Aside0.mk (below_step (by repeat (first | (with_reducible first | exact HB.out | apply below_alloc | apply pw_below_drewN | apply below_drew1) | exact HB.out)) hb); clear HB; have HB := n0_; clear n0_; (try clear hb); (try clear hb2); (try clear hk); (try clear hi)))); (go_meet)
          case rel => exact ⟨_, (decide ((l3.length : Int) > 20)), (by first | rfl | (simp; done) | (simp [*]; done)), H', ⟨by first | omega | exact Nat.le_refl _⟩, ⟨by repeat (first | (with_reducible first | exact HB.out | apply below_alloc | apply pw_below_drewN | apply below_drew1) | exact HB.out)⟩⟩
        · replace c11 := Bool.eq_false_iff.mpr c11
          (subst c11); (have H1 : (missivelaw20_PieceTexts.j0 k a0 a1 a2 l3 t233 true) = some r := by rw [if_neg (show ¬ (false = true) by decide)] at H; exact H); clear H; (have H := H1); clear H1; (have H' := Aside0.mk H); clear H; (go_wp2_with (first | (go_at_call 21; (with_reducible refine (missivelaw20_short.calls k a2 false _ (by first | ((repeat (first | exact HG_.out | apply GW.drewN | apply GW.drew | apply GW.alloc)); done) | exact GW.below HG_.out (by repeat (first | (with_reducible first | exact HB.out | apply below_alloc | apply pw_below_drewN | apply below_drew1) | exact HB.out))) A10.out).mono ?_); rintro e w13 ⟨rfl, hb⟩; have n0_ := Aside0.mk (below_step (by repeat (first | (with_reducible first | exact HB.out | apply below_alloc | apply pw_below_drewN | apply below_drew1) | exact HB.out)) hb); clear HB; have HB := n0_; clear n0_; (try clear hb); (try clear hb2); (try clear hk); (try clear hi)))); (go_meet)
          case rel => exact ⟨_, (true), (by first | rfl | (simp; done) | (simp [*]; done)), H', ⟨by first | omega | exact Nat.le_refl _⟩, ⟨by repeat (first | (with_reducible first | exact HB.out | apply below_alloc | apply pw_below_drewN | apply below_drew1) | exact HB.out)⟩⟩
  case rest =>
    clear HC6; (try clear c1); (try clear c2); (try clear p2); (try clear c3); (try clear c8); (try clear c8b0); (try clear c8b1); (try clear c9); (try clear c9b0); (try clear c9b1); (try clear c11)
    obtain ⟨kq, x31_5, rfl, HA, HJ5, HB⟩ := hcut
    cases kq with
    | zero => exact absurd HA.out (by simp [missivelaw20_PieceTexts.j0])
    | succ kj5 =>
      (have H := HA.out); clear HA; (simp only [missivelaw20_PieceTexts.j0] at H)
      by_cases c14 : x31_5 = true
      · subst c14
        (have H1 : (some t233) = some r := by rw [if_pos rfl] at H; exact H); clear H; (have H := H1); clear H1
        obtain rfl := Option.some.inj H
        go_wp2; (go_ret); (exact ⟨by first | rfl | (simp [errW_none, errW_some] <;> rfl) | (simp [*, errW_none, errW_some] <;> rfl), by repeat (first | (with_reducible first | exact HB.out | apply below_alloc | apply pw_below_drewN | apply below_drew1) | exact HB.out)⟩)
      · replace c14 := Bool.eq_false_iff.mpr c14
        (subst c14); (have H1 : ((text_Lines.f kj5 a2).bind fun t235 => (missivelaw20_PieceTexts.l0 kj5 a0 a1 a2 l3 t233 t235 (⟨#[]⟩ : ByteArray) 0)) = some r := by rw [if_neg (show ¬ (false = true) by decide)] at H; exact H); clear H; (have H := H1); clear H1; (replace H := Option.bind_eq_some_iff.mp H)
        obtain ⟨t235, A150, H⟩ := H
        (replace H : (missivelaw20_PieceTexts.l0 kj5 a0 a1 a2 l3 t233 t235 (⟨#[]⟩ : ByteArray) 0) = some r := H); (have A15 := Aside0.mk A150); clear A150; (have H' := Aside0.mk H); clear H; (go_wp2_with (first | ((with_reducible refine gate_callee (f := 22) rfl ?_); refine goesL_ (some 34) rfl rfl Tryd.func22 (by kernel_rfl) rfl #[.string a2] rfl (by (try simp only [List.map_toArray, List.map_cons, List.map_nil]); first | done | rfl | (simp only [List.length_drop, List.length_take]; rfl)) ?_; (with_reducible refine (text_Lines.calls kj5 a2 t235 _ (by first | ((repeat (first | exact HG_.out | apply GW.drewN | apply GW.drew | apply GW.alloc)); done) | exact GW.below HG_.out (by repeat (first | (with_reducible first | exact HB.out | apply below_alloc | apply pw_below_drewN | apply below_drew1) | exact HB.out))) A15.out).mono ?_); rintro e w16 ⟨v236, rfl, ho0, hb⟩; refine ⟨_, rfl, ?_⟩; have n0_ := Aside0.mk (Kd.R_lower ho0 (below_size (by repeat (first | (with_reducible first | exact HB.out | apply below_alloc | apply pw_below_drewN | apply below_drew1) | exact HB.out)))); have n1_ := Aside0.mk (below_step (by repeat (first | (with_reducible first | exact HB.out | apply below_alloc | apply pw_below_drewN | apply below_drew1) | exact HB.out)) hb); clear HB; have HO237 := n0_; have HB := n1_; clear n0_ n1_; (try clear hb); (try clear hb2); (try clear hk); (try clear hi); (try clear ho0)))); (go_loopg [11, 12] kj5 (fun kq v11 v12 w' => ∃ (x11_2 : ByteArray) (x12_2 : Int), v11 = .string x11_2 ∧ v12 = .int .i64 x12_2 ∧ Aside0 (missivelaw20_PieceTexts.l0 kq a0 a1 a2 l3 t233 t235 x11_2 x12_2 = some r) ∧ Aside0 (kq ≤ kj5) ∧ Aside0 (Kd.R Kd.string 9 w' w.heap.size (fun _ => True) v236 t235) ∧ Aside0 (Below w.heap.size w w')))
        case atStart => exact ⟨((⟨#[]⟩ : ByteArray)), (0), (by first | rfl | (simp; done) | (simp [*]; done)), (by first | rfl | (simp; done) | (simp [*]; done)), H', ⟨Nat.le_refl _⟩, ⟨by (with_reducible repeat (first | apply Kd.R_alloc | apply Kd.R_drewN | apply Kd.R_drew)); exact HO237.out⟩, ⟨by repeat (first | (with_reducible first | exact HB.out | apply below_alloc | apply pw_below_drewN | apply below_drew1) | exact HB.out)⟩⟩
        case round =>
          (clear H'); (try clear c1); (try clear c2); (try clear p2); (try clear c3); (try clear c8); (try clear c8b0); (try clear c8b1); (try clear c9); (try clear c9b0); (try clear c9b1); (try clear c11); (try clear c14); (try clear p2)
          obtain ⟨x11_2, x12_2, rfl, rfl, HA, HK2, HO_10, HB⟩ := hrel
          cases gk with
          | zero => exact absurd HA.out (by simp [missivelaw20_PieceTexts.l0])
          | succ k2 =>
            (have H := HA.out); clear HA; (simp only [missivelaw20_PieceTexts.l0] at H)
            by_cases c17 : x12_2 < (t235.length : Int)
            · rw [if_pos c17] at H
              (have c17b0 : decide (x12_2 < (t235.length : Int)) = true := decide_eq_true c17); clear c17; (replace H := Option.bind_eq_some_iff.mp H)
              obtain ⟨t238, A180, H⟩ := H
              (replace H : (if t238 = true then (if x11_2.size + 11 ≤ 9223372036854775807 then (missivelaw20_PieceTexts.l0 k2 a0 a1 a2 l3 t233 t235 (x11_2 ++ (⟨#[91, 114, 101, 100, 97, 99, 116, 101, 100, 93, 10]⟩ : ByteArray)) (wrap64 (x12_2 + 1))) else (none)) else (if 0 ≤ x12_2 then (if x11_2.size + (rdOf ByteArray.empty t235 x12_2).size ≤ 9223372036854775807 then (if (x11_2 ++ (rdOf ByteArray.empty t235 x12_2)).size + 1 ≤ 9223372036854775807 then (missivelaw20_PieceTexts.l0 k2 a0 a1 a2 l3 t233 t235 ((x11_2 ++ (rdOf ByteArray.empty t235 x12_2)) ++ (⟨#[10]⟩ : ByteArray)) (wrap64 (x12_2 + 1))) else (none)) else (none)) else (none))) = some r := H); (have A18 := Aside0.mk A180); clear A180
              by_cases c19 : t238 = true
              · subst c19
                (have H1 : (if x11_2.size + 11 ≤ 9223372036854775807 then (missivelaw20_PieceTexts.l0 k2 a0 a1 a2 l3 t233 t235 (x11_2 ++ (⟨#[91, 114, 101, 100, 97, 99, 116, 101, 100, 93, 10]⟩ : ByteArray)) (wrap64 (x12_2 + 1))) else (none)) = some r := by rw [if_pos rfl] at H; exact H); clear H; (have H := H1); clear H1
                by_cases c20 : x11_2.size + 11 ≤ 9223372036854775807
                · rw [if_pos c20] at H
                  (have c20b0 := eq_true c20); (have c20b1 : decide (x11_2.size + 11 ≤ 9223372036854775807) = true := decide_eq_true c20); (try have c20b2 : (9223372036854775807 < x11_2.size + 11) = False := eq_false (Nat.not_lt.2 c20)); (have H' := Aside0.mk H); clear H
                  obtain ⟨Ao21, co21, eo21⟩ := Kd.R_slice HO_10.out
                  (subst eo21); (go_wp2_with (first | ((with_reducible refine gate_callee (f := 33) rfl ?_); refine goesL_ (some 43) rfl rfl Tryd.func33 (by kernel_rfl) rfl #[.slice A3 l3.length c3, .int .i64 x12_2] rfl (by (try simp only [List.map_toArray, List.map_cons, List.map_nil]); first | done | rfl | (simp only [List.length_drop, List.length_take]; rfl)) ?_; (with_reducible refine (missivelaw20_in.calls k2 _ _ l3 x12_2 true _ (by first | ((repeat (first | exact HG_.out | apply GW.drewN | apply GW.drew | apply GW.alloc)); done) | exact GW.below HG_.out (by repeat (first | (with_reducible first | exact HB.out | apply below_alloc | apply pw_below_drewN | apply below_drew1) | exact HB.out))) ?side1 ?side2 A18.out).mono ?_); (case side1 => repeat (first | exact (Kd.C_below HR3.out HB.out) | (with_reducible refine Kd.C_alloc ?_ _) | (with_reducible refine Kd.C_drewN ?_ _) | (with_reducible refine Kd.C_drew ?_))); (case side2 => exact HC3.out); rintro e w' ⟨rfl, ⟨nd, rfl⟩⟩; refine ⟨_, rfl, ?_⟩))); (go_roundg k2)
                  case measure => have := HJ5.out; have := HK2.out; omega
                  case rel => exact ⟨(x11_2 ++ (⟨#[91, 114, 101, 100, 97, 99, 116, 101, 100, 93, 10]⟩ : ByteArray)), (wrap64 (x12_2 + 1)), (by first | rfl | (simp; done) | (simp [*]; done)), (by first | rfl | (simp; done) | (simp [*]; done)), H', ⟨by have := HJ5.out; have := HK2.out; omega⟩, ⟨by (with_reducible repeat (first | apply Kd.R_alloc | apply Kd.R_drewN | apply Kd.R_drew)); exact HO_10.out⟩, ⟨by repeat (first | (with_reducible first | exact HB.out | apply below_alloc | apply pw_below_drewN | apply below_drew1) | exact HB.out)⟩⟩
                · rw [if_neg c20] at H
                  (exact absurd H (by simp))
              · replace c19 := Bool.eq_false_iff.mpr c19
                (subst c19); (have H1 : (if 0 ≤ x12_2 then (if x11_2.size + (rdOf ByteArray.empty t235 x12_2).size ≤ 9223372036854775807 then (if (x11_2 ++ (rdOf ByteArray.empty t235 x12_2)).size + 1 ≤ 9223372036854775807 then (missivelaw20_PieceTexts.l0 k2 a0 a1 a2 l3 t233 t235 ((x11_2 ++ (rdOf ByteArray.empty t235 x12_2)) ++ (⟨#[10]⟩ : ByteArray)) (wrap64 (x12_2 + 1))) else (none)) else (none)) else (none)) = some r := by rw [if_neg (show ¬ (false = true) by decide)] at H; exact H); clear H; (have H := H1); clear H1
                by_cases c22 : 0 ≤ x12_2
                · rw [if_pos c22] at H
                  (have c22b0 : decide (0 ≤ x12_2) = true := decide_eq_true c22); clear c22
                  by_cases c23 : x11_2.size + (rdOf ByteArray.empty t235 x12_2).size ≤ 9223372036854775807
                  · rw [if_pos c23] at H
                    (have c23b0 := eq_true c23); (have c23b1 : decide (x11_2.size + (rdOf ByteArray.empty t235 x12_2).size ≤ 9223372036854775807) = true := decide_eq_true c23); (try have c23b2 : (9223372036854775807 < x11_2.size + (rdOf ByteArray.empty t235 x12_2).size) = False := eq_false (Nat.not_lt.2 c23))
                    by_cases c24 : (x11_2 ++ (rdOf ByteArray.empty t235 x12_2)).size + 1 ≤ 9223372036854775807
                    · rw [if_pos c24] at H
                      (have c24b0 := eq_true c24); (have c24b1 : decide ((x11_2 ++ (rdOf ByteArray.empty t235 x12_2)).size + 1 ≤ 9223372036854775807) = true := decide_eq_true c24); (try have c24b2 : (9223372036854775807 < (x11_2 ++ (rdOf ByteArray.empty t235 x12_2)).size + 1) = False := eq_false (Nat.not_lt.2 c24)); (try (have c24n := c24b2; simp only [ByteArray.size_append, size_mk_, List.size_toArray, List.length_cons, List.length_nil, Nat.zero_add, Nat.reduceAdd] at c24n)); (have H' := Aside0.mk H); clear H
                      obtain ⟨Ao25, co25, eo25⟩ := Kd.R_slice HO_10.out
                      (subst eo25); (go_wp2_with (first | ((with_reducible refine gate_callee (f := 33) rfl ?_); refine goesL_ (some 43) rfl rfl Tryd.func33 (by kernel_rfl) rfl #[.slice A3 l3.length c3, .int .i64 x12_2] rfl (by (try simp only [List.map_toArray, List.map_cons, List.map_nil]); first | done | rfl | (simp only [List.length_drop, List.length_take]; rfl)) ?_; (with_reducible refine (missivelaw20_in.calls k2 _ _ l3 x12_2 false _ (by first | ((repeat (first | exact HG_.out | apply GW.drewN | apply GW.drew | apply GW.alloc)); done) | exact GW.below HG_.out (by repeat (first | (with_reducible first | exact HB.out | apply below_alloc | apply pw_below_drewN | apply below_drew1) | exact HB.out))) ?side1 ?side2 A18.out).mono ?_); (case side1 => repeat (first | exact (Kd.C_below HR3.out HB.out) | (with_reducible refine Kd.C_alloc ?_ _) | (with_reducible refine Kd.C_drewN ?_ _) | (with_reducible refine Kd.C_drew ?_))); (case side2 => exact HC3.out); rintro e w' ⟨rfl, ⟨nd, rfl⟩⟩; refine ⟨_, rfl, ?_⟩; have p239 : 0 ≤ (x12_2 : Int) := of_decide_eq_true (by first | (with_reducible assumption) | assumption); have q239 : x12_2 < (t235.length : Int) := of_decide_eq_true (by first | (with_reducible assumption) | assumption); obtain ⟨ad239, e239, hx239_0⟩ := Kd.at_string (Kd.R_reads' HO_10.out).2.2 x12_2 p239 q239; cases e239; replace p239 := eq_true p239; replace q239 := eq_true q239))); (go_roundg k2)
                      case measure => have := HJ5.out; have := HK2.out; omega
                      case rel => exact ⟨((x11_2 ++ (rdOf ByteArray.empty t235 x12_2)) ++ (⟨#[10]⟩ : ByteArray)), (wrap64 (x12_2 + 1)), (by first | rfl | (simp; done) | (simp [*]; done)), (by first | rfl | (simp; done) | (simp [*]; done)), H', ⟨by have := HJ5.out; have := HK2.out; omega⟩, ⟨by (with_reducible repeat (first | apply Kd.R_alloc | apply Kd.R_drewN | apply Kd.R_drew)); exact HO_10.out⟩, ⟨by repeat (first | (with_reducible first | exact HB.out | apply below_alloc | apply pw_below_drewN | apply below_drew1) | exact HB.out)⟩⟩
                    · rw [if_neg c24] at H
                      (exact absurd H (by simp))
                  · rw [if_neg c23] at H
                    (exact absurd H (by simp))
                · rw [if_neg c22] at H
                  (exact absurd H (by simp))
            · rw [if_neg c17] at H
              (have c17b0 : decide (x12_2 < (t235.length : Int)) = false := decide_eq_false c17); clear c17
              by_cases c26 : t233 = true
              · subst c26
                (have H1 : ((piece_Show.f k2 a0 a1 a2 l3).bind fun t240 => ((piece_Text.f t240).bind fun t243 => (if t243.toList = x11_2.toList then ((piece_Show.f k2 a0 a1 a2 ([] : List (S43))).bind fun t244 => ((piece_Text.f t244).bind fun t247 => ((text_Unlines.f t235).bind fun t248 => (some (t247.toList == t248.toList))))) else (some false)))) = some r := by rw [if_pos rfl] at H; exact H); clear H; (have H := H1); clear H1; (replace H := Option.bind_eq_some_iff.mp H)
                obtain ⟨t240, A270, H⟩ := H
                (replace H : ((piece_Text.f t240).bind fun t243 => (if t243.toList = x11_2.toList then ((piece_Show.f k2 a0 a1 a2 ([] : List (S43))).bind fun t244 => ((piece_Text.f t244).bind fun t247 => ((text_Unlines.f t235).bind fun t248 => (some (t247.toList == t248.toList))))) else (some false))) = some r := H); (have A27 := Aside0.mk A270); clear A270; (replace H := Option.bind_eq_some_iff.mp H)
                obtain ⟨t243, A280, H⟩ := H
                (replace H : (if t243.toList = x11_2.toList then ((piece_Show.f k2 a0 a1 a2 ([] : List (S43))).bind fun t244 => ((piece_Text.f t244).bind fun t247 => ((text_Unlines.f t235).bind fun t248 => (some (t247.toList == t248.toList))))) else (some false)) = some r := H); (have A28 := Aside0.mk A280); clear A280
                by_cases c29 : t243.toList = x11_2.toList
                · rw [if_pos c29] at H
                  (have c29b0 : (t243.toList == x11_2.toList) = true := beq_iff_eq.mpr c29); (have c29b1 : (t243.toList != x11_2.toList) = false := bne_eq_false_iff_eq.mpr c29); clear c29; (replace H := Option.bind_eq_some_iff.mp H)
                  obtain ⟨t244, A300, H⟩ := H
                  (replace H : ((piece_Text.f t244).bind fun t247 => ((text_Unlines.f t235).bind fun t248 => (some (t247.toList == t248.toList)))) = some r := H); (have A30 := Aside0.mk A300); clear A300; (replace H := Option.bind_eq_some_iff.mp H)
                  obtain ⟨t247, A310, H⟩ := H
                  (replace H : ((text_Unlines.f t235).bind fun t248 => (some (t247.toList == t248.toList))) = some r := H); (have A31 := Aside0.mk A310); clear A310; (replace H := Option.bind_eq_some_iff.mp H)
                  obtain ⟨t248, A320, H⟩ := H
                  (replace H : (some (t247.toList == t248.toList)) = some r := H); (have A32 := Aside0.mk A320); clear A320
                  obtain rfl := Option.some.inj H
                  obtain ⟨Ao33, co33, eo33⟩ := Kd.R_slice HO_10.out
                  (subst eo33); (go_wp2_with (first | (go_at_call 24; (with_reducible refine (piece_Show.calls k2 a0 a1 a2 _ _ l3 t240 _ (by first | ((repeat (first | exact HG_.out | apply GW.drewN | apply GW.drew | apply GW.alloc)); done) | exact GW.below HG_.out (by repeat (first | (with_reducible first | exact HB.out | apply below_alloc | apply pw_below_drewN | apply below_drew1) | exact HB.out))) ?side1 ?side2 A27.out).mono ?_); (case side1 => repeat (first | exact (Kd.C_below HR3.out HB.out) | (with_reducible refine Kd.C_alloc ?_ _) | (with_reducible refine Kd.C_drewN ?_ _) | (with_reducible refine Kd.C_drew ?_))); (case side2 => exact HC3.out); rintro e w34 ⟨v241, rfl, ho0, hb⟩; have n0_ := Aside0.mk (Kd.R_below (by (with_reducible repeat (first | apply Kd.R_alloc | apply Kd.R_drewN | apply Kd.R_drew)); exact HO_10.out) hb); have n1_ := Aside0.mk (Kd.R_lower ho0 (below_size (by repeat (first | (with_reducible first | exact HB.out | apply below_alloc | apply pw_below_drewN | apply below_drew1) | exact HB.out)))); have n2_ := Aside0.mk (below_step (by repeat (first | (with_reducible first | exact HB.out | apply below_alloc | apply pw_below_drewN | apply below_drew1) | exact HB.out)) hb); clear HO_10; clear HB; have HO_10 := n0_; have HO242 := n1_; have HB := n2_; clear n0_ n1_ n2_; (try clear hb); (try clear hb2); (try clear hk); (try clear hi); (try clear ho0); obtain ⟨Ao35, co35, eo35⟩ := Kd.R_slice HO242.out; subst eo35) | (go_at_call 34; (with_reducible refine (piece_Text.calls _ _ t240 t243 _ (by first | ((repeat (first | exact HG_.out | apply GW.drewN | apply GW.drew | apply GW.alloc)); done) | exact GW.below HG_.out (by repeat (first | (with_reducible first | exact HB.out | apply below_alloc | apply pw_below_drewN | apply below_drew1) | exact HB.out))) ?side1 ?side2 A28.out).mono ?_); (case side1 => repeat (first | exact (Kd.R_reads' HO242.out).2.2 | (with_reducible refine Kd.C_alloc ?_ _) | (with_reducible refine Kd.C_drewN ?_ _) | (with_reducible refine Kd.C_drew ?_))); (case side2 => exact (Kd.R_reads' HO242.out).2.1); rintro e w36 ⟨rfl, hb⟩; have n0_ := Aside0.mk (Kd.R_below (by (with_reducible repeat (first | apply Kd.R_alloc | apply Kd.R_drewN | apply Kd.R_drew)); exact HO_10.out) hb); have n1_ := Aside0.mk (Kd.R_below (by (with_reducible repeat (first | apply Kd.R_alloc | apply Kd.R_drewN | apply Kd.R_drew)); exact HO242.out) hb); have n2_ := Aside0.mk (below_step (by repeat (first | (with_reducible first | exact HB.out | apply below_alloc | apply pw_below_drewN | apply below_drew1) | exact HB.out)) hb); clear HO_10; clear HO242; clear HB; have HO_10 := n0_; have HO242 := n1_; have HB := n2_; clear n0_ n1_ n2_; (try clear hb); (try clear hb2); (try clear hk); (try clear hi)) | (go_at_call 24; (refine (piece_Show.calls k2 a0 a1 a2 _ _ ([] : List (S43)) t244 _ (by first | ((repeat (first | exact HG_.out | apply GW.drewN | apply GW.drew | apply GW.alloc)); done) | exact GW.below HG_.out (by repeat (first | (with_reducible first | exact HB.out | apply below_alloc | apply pw_below_drewN | apply below_drew1) | exact HB.out))) ?side1 ?side2 A30.out).mono ?_); (case side1 => exact Kd.C_nil _ _); (case side2 => exact Nat.le_refl _); rintro e w37 ⟨v245, rfl, ho0, hb⟩; have n0_ := Aside0.mk (Kd.R_below (by (with_reducible repeat (first | apply Kd.R_alloc | apply Kd.R_drewN | apply Kd.R_drew)); exact HO_10.out) hb); have n1_ := Aside0.mk (Kd.R_elder' (by (with_reducible repeat (first | apply Kd.R_alloc | apply Kd.R_drewN | apply Kd.R_drew)); exact HO242.out) (Kd.R_base ho0) hb); have n2_ := Aside0.mk (Kd.R_lower (Kd.R_new' ho0 (Kd.R_lt (by (with_reducible repeat (first | apply Kd.R_alloc | apply Kd.R_drewN | apply Kd.R_drew)); exact HO242.out))) (below_size (by repeat (first | (with_reducible first | exact HB.out | apply below_alloc | apply pw_below_drewN | apply below_drew1) | exact HB.out)))); have n3_ := Aside0.mk (below_step (by repeat (first | (with_reducible first | exact HB.out | apply below_alloc | apply pw_below_drewN | apply below_drew1) | exact HB.out)) hb); clear HO_10; clear HO242; clear HB; have HO_10 := n0_; have HO242 := n1_; have HO246 := n2_; have HB := n3_; clear n0_ n1_ n2_ n3_; (try clear hb); (try clear hb2); (try clear hk); (try clear hi); (try clear ho0); obtain ⟨Ao38, co38, eo38⟩ := Kd.R_slice HO246.out; subst eo38) | (go_at_call 34; (with_reducible refine (piece_Text.calls _ _ t244 t247 _ (by first | ((repeat (first | exact HG_.out | apply GW.drewN | apply GW.drew | apply GW.alloc)); done) | exact GW.below HG_.out (by repeat (first | (with_reducible first | exact HB.out | apply below_alloc | apply pw_below_drewN | apply below_drew1) | exact HB.out))) ?side1 ?side2 A31.out).mono ?_); (case side1 => repeat (first | exact (Kd.R_reads' HO246.out).2.2 | (with_reducible refine Kd.C_alloc ?_ _) | (with_reducible refine Kd.C_drewN ?_ _) | (with_reducible refine Kd.C_drew ?_))); (case side2 => exact (Kd.R_reads' HO246.out).2.1); rintro e w39 ⟨rfl, hb⟩; have n0_ := Aside0.mk (Kd.R_below (by (with_reducible repeat (first | apply Kd.R_alloc | apply Kd.R_drewN | apply Kd.R_drew)); exact HO_10.out) hb); have n1_ := Aside0.mk (Kd.R_below (by (with_reducible repeat (first | apply Kd.R_alloc | apply Kd.R_drewN | apply Kd.R_drew)); exact HO242.out) hb); have n2_ := Aside0.mk (Kd.R_below (by (with_reducible repeat (first | apply Kd.R_alloc | apply Kd.R_drewN | apply Kd.R_drew)); exact HO246.out) hb); have n3_ := Aside0.mk (below_step (by repeat (first | (with_reducible first | exact HB.out | apply below_alloc | apply pw_below_drewN | apply below_drew1) | exact HB.out)) hb); clear HO_10; clear HO242; clear HO246; clear HB; have HO_10 := n0_; have HO242 := n1_; have HO246 := n2_; have HB := n3_; clear n0_ n1_ n2_ n3_; (try clear hb); (try clear hb2); (try clear hk); (try clear hi)) | (go_at_call 35; (with_reducible refine (text_Unlines.calls _ _ t235 t248 _ (by first | ((repeat (first | exact HG_.out | apply GW.drewN | apply GW.drew | apply GW.alloc)); done) | exact GW.below HG_.out (by repeat (first | (with_reducible first | exact HB.out | apply below_alloc | apply pw_below_drewN | apply below_drew1) | exact HB.out))) ?side1 ?side2 A32.out).mono ?_); (case side1 => repeat (first | exact (Kd.R_reads' HO_10.out).2.2 | (with_reducible refine Kd.C_alloc ?_ _) | (with_reducible refine Kd.C_drewN ?_ _) | (with_reducible refine Kd.C_drew ?_))); (case side2 => exact (Kd.R_reads' HO_10.out).2.1); rintro e w40 ⟨rfl, hb⟩; have n0_ := Aside0.mk (Kd.R_below (by (with_reducible repeat (first | apply Kd.R_alloc | apply Kd.R_drewN | apply Kd.R_drew)); exact HO_10.out) hb); have n1_ := Aside0.mk (Kd.R_below (by (with_reducible repeat (first | apply Kd.R_alloc | apply Kd.R_drewN | apply Kd.R_drew)); exact HO242.out) hb); have n2_ := Aside0.mk (Kd.R_below (by (with_reducible repeat (first | apply Kd.R_alloc | apply Kd.R_drewN | apply Kd.R_drew)); exact HO246.out) hb); have n3_ := Aside0.mk (below_step (by repeat (first | (with_reducible first | exact HB.out | apply below_alloc | apply pw_below_drewN | apply below_drew1) | exact HB.out)) hb); clear HO_10; clear HO242; clear HO246; clear HB; have HO_10 := n0_; have HO242 := n1_; have HO246 := n2_; have HB := n3_; clear n0_ n1_ n2_ n3_; (try clear hb); (try clear hb2); (try clear hk); (try clear hi)))); (go_ret); (exact ⟨by first | rfl | (simp [errW_none, errW_some] <;> rfl) | (simp [*, errW_none, errW_some] <;> rfl), by repeat (first | (with_reducible first | exact HB.out | apply below_alloc | apply pw_below_drewN | apply below_drew1) | exact HB.out)⟩)
                · rw [if_neg c29] at H
                  (have c29b0 : (t243.toList == x11_2.toList) = false := beq_eq_false_iff_ne.mpr c29); (have c29b1 : (t243.toList != x11_2.toList) = true := bne_iff_ne.mpr c29)
                  obtain rfl := Option.some.inj H
                  obtain ⟨Ao41, co41, eo41⟩ := Kd.R_slice HO_10.out
                  (subst eo41); (go_wp2_with (first | (go_at_call 24; (with_reducible refine (piece_Show.calls k2 a0 a1 a2 _ _ l3 t240 _ (by first | ((repeat (first | exact HG_.out | apply GW.drewN | apply GW.drew | apply GW.alloc)); done) | exact GW.below HG_.out (by repeat (first | (with_reducible first | exact HB.out | apply below_alloc | apply pw_below_drewN | apply below_drew1) | exact HB.out))) ?side1 ?side2 A27.out).mono ?_); (case side1 => repeat (first | exact (Kd.C_below HR3.out HB.out) | (with_reducible refine Kd.C_alloc ?_ _) | (with_reducible refine Kd.C_drewN ?_ _) | (with_reducible refine Kd.C_drew ?_))); (case side2 => exact HC3.out); rintro e w42 ⟨v241, rfl, ho0, hb⟩; have n0_ := Aside0.mk (Kd.R_below (by (with_reducible repeat (first | apply Kd.R_alloc | apply Kd.R_drewN | apply Kd.R_drew)); exact HO_10.out) hb); have n1_ := Aside0.mk (Kd.R_lower ho0 (below_size (by repeat (first | (with_reducible first | exact HB.out | apply below_alloc | apply pw_below_drewN | apply below_drew1) | exact HB.out)))); have n2_ := Aside0.mk (below_step (by repeat (first | (with_reducible first | exact HB.out | apply below_alloc | apply pw_below_drewN | apply below_drew1) | exact HB.out)) hb); clear HO_10; clear HB; have HO_10 := n0_; have HO242 := n1_; have HB := n2_; clear n0_ n1_ n2_; (try clear hb); (try clear hb2); (try clear hk); (try clear hi); (try clear ho0); obtain ⟨Ao43, co43, eo43⟩ := Kd.R_slice HO242.out; subst eo43) | (go_at_call 34; (with_reducible refine (piece_Text.calls _ _ t240 t243 _ (by first | ((repeat (first | exact HG_.out | apply GW.drewN | apply GW.drew | apply GW.alloc)); done) | exact GW.below HG_.out (by repeat (first | (with_reducible first | exact HB.out | apply below_alloc | apply pw_below_drewN | apply below_drew1) | exact HB.out))) ?side1 ?side2 A28.out).mono ?_); (case side1 => repeat (first | exact (Kd.R_reads' HO242.out).2.2 | (with_reducible refine Kd.C_alloc ?_ _) | (with_reducible refine Kd.C_drewN ?_ _) | (with_reducible refine Kd.C_drew ?_))); (case side2 => exact (Kd.R_reads' HO242.out).2.1); rintro e w44 ⟨rfl, hb⟩; have n0_ := Aside0.mk (Kd.R_below (by (with_reducible repeat (first | apply Kd.R_alloc | apply Kd.R_drewN | apply Kd.R_drew)); exact HO_10.out) hb); have n1_ := Aside0.mk (Kd.R_below (by (with_reducible repeat (first | apply Kd.R_alloc | apply Kd.R_drewN | apply Kd.R_drew)); exact HO242.out) hb); have n2_ := Aside0.mk (below_step (by repeat (first | (with_reducible first | exact HB.out | apply below_alloc | apply pw_below_drewN | apply below_drew1) | exact HB.out)) hb); clear HO_10; clear HO242; clear HB; have HO_10 := n0_; have HO242 := n1_; have HB := n2_; clear n0_ n1_ n2_; (try clear hb); (try clear hb2); (try clear hk); (try clear hi)))); (go_ret); (exact ⟨by first | rfl | (simp [errW_none, errW_some] <;> rfl) | (simp [*, errW_none, errW_some] <;> rfl), by repeat (first | (with_reducible first | exact HB.out | apply below_alloc | apply pw_below_drewN | apply below_drew1) | exact HB.out)⟩)
              · replace c26 := Bool.eq_false_iff.mpr c26
                (subst c26); (have H1 : (some false) = some r := by rw [if_neg (show ¬ (false = true) by decide)] at H; exact H); clear H; (have H := H1); clear H1
                obtain rfl := Option.some.inj H
                obtain ⟨Ao45, co45, eo45⟩ := Kd.R_slice HO_10.out
                (subst eo45); go_wp2; (go_ret); (exact ⟨by first | rfl | (simp [errW_none, errW_some] <;> rfl) | (simp [*, errW_none, errW_some] <;> rfl), by repeat (first | (with_reducible first | exact HB.out | apply below_alloc | apply pw_below_drewN | apply below_drew1) | exact HB.out)⟩)

/-! ### missivelaw20_leaf: function 67 -/
def missivelaw20_leaf.f (a0_0 : Bool) (a0_1 : ByteArray) (a0_2 : ByteArray) (a0_3 : ByteArray) : Option (ByteArray) := if a0_0 = true then (some a0_3) else (if a0_1.size + a0_2.size ≤ 9223372036854775807 then ((merkle_Leaf.f (a0_1 ++ a0_2)).bind fun t250 => (some t250)) else (none))
set_option maxHeartbeats 8000000 in
set_option maxRecDepth 100000 in
theorem missivelaw20_leaf.calls (a0_0 : Bool) (a0_1 : ByteArray) (a0_2 : ByteArray) (a0_3 : ByteArray) (r : ByteArray) (w : World) (hG : GW w) (h : missivelaw20_leaf.f a0_0 a0_1 a0_2 a0_3 = some r) :
    Calls Tryd.prog 67 #[.agg #[.bool a0_0, .string a0_1, .string a0_2, .string a0_3]] w fun e w' => e = .returned (.string r) ∧ Below w.heap.size w w' := by
  (have HG_ := Aside0.mk hG); clear hG; (have hu45 := Tryd.underlying45); (have HB := Aside0.mk (Below.refl w.heap.size w)); (have H : (if a0_0 = true then (some a0_3) else (if a0_1.size + a0_2.size ≤ 9223372036854775807 then ((merkle_Leaf.f (a0_1 ++ a0_2)).bind fun t250 => (some t250)) else (none))) = some r := h); clear h
  by_cases c2 : a0_0 = true
  · subst c2
    (have H1 : (some a0_3) = some r := by rw [if_pos rfl] at H; exact H); clear H; (have H := H1); clear H1
    obtain rfl := Option.some.inj H
    (go_enter Tryd.func67, Tryd.ntmps67); (go_wp2_with (first | ((with_reducible refine gate_dst (N := 1) rfl ?_); refine box_event ?hg (N := 1) ?hd (cs := #[.bool true, .string a0_1, .string a0_2, .string a0_3]) (t := 45) ?hr ?_; (case hd => rfl); (case hg => rfl); (case hr => first | (go_simp; done) | (go_simp; rfl)); intro gb249 hg w3 hbox hb; have n0_ := Aside0.mk (below_step (by repeat (first | (with_reducible first | exact HB.out | apply below_alloc | apply pw_below_drewN | apply below_drew1) | exact HB.out)) hb); have n1_ := Aside0.mk (hbox); have n2_ := Aside0.mk ((by rw [hg]; exact (below_size (by repeat (first | (with_reducible first | exact HB.out | apply below_alloc | apply pw_below_drewN | apply below_drew1) | exact HB.out))) : w.heap.size ≤ gb249)); have n3_ := Aside0.mk ((by rw [hg]; exact (below_size (by repeat (first | (with_reducible first | exact HB.out | apply below_alloc | apply pw_below_drewN | apply below_drew1) | exact HB.out))) : w.heap.size ≤ gb249)); clear HB; have HB := n0_; have BK249 := n1_; have GW249 := n2_; have GE249 := n3_; clear n0_ n1_ n2_ n3_; clear hb hbox hg; have hcz4_0 : w3.cell? ⟨gb249, 0, none⟩ = some (.bool true) := (blk_cell BK249.out 0).trans rfl; have hcz4_1 : w3.cell? ⟨gb249, 1, none⟩ = some (.string a0_1) := (blk_cell BK249.out 1).trans rfl; have hcz4_2 : w3.cell? ⟨gb249, 2, none⟩ = some (.string a0_2) := (blk_cell BK249.out 2).trans rfl; have hcz4_3 : w3.cell? ⟨gb249, 3, none⟩ = some (.string a0_3) := (blk_cell BK249.out 3).trans rfl; have hfz4_0 := blk_frozen BK249.out 0; have hfz4_1 := blk_frozen BK249.out 1; have hfz4_2 := blk_frozen BK249.out 2; have hfz4_3 := blk_frozen BK249.out 3))); (go_ret); (exact ⟨by first | rfl | (simp [errW_none, errW_some] <;> rfl) | (simp [*, errW_none, errW_some] <;> rfl), by repeat (first | (with_reducible first | exact HB.out | apply below_alloc | apply pw_below_drewN | apply below_drew1 | refine below_set ?_ GE249.out) | exact HB.out)⟩)
  · replace c2 := Bool.eq_false_iff.mpr c2
    (subst c2); (have H1 : (if a0_1.size + a0_2.size ≤ 9223372036854775807 then ((merkle_Leaf.f (a0_1 ++ a0_2)).bind fun t250 => (some t250)) else (none)) = some r := by rw [if_neg (show ¬ (false = true) by decide)] at H; exact H); clear H; (have H := H1); clear H1
    by_cases c5 : a0_1.size + a0_2.size ≤ 9223372036854775807
    · rw [if_pos c5] at H
      (have c5b0 := eq_true c5); (have c5b1 : decide (a0_1.size + a0_2.size ≤ 9223372036854775807) = true := decide_eq_true c5); (try have c5b2 : (9223372036854775807 < a0_1.size + a0_2.size) = False := eq_false (Nat.not_lt.2 c5)); (replace H := Option.bind_eq_some_iff.mp H)
      obtain ⟨t250, A60, H⟩ := H
      (replace H : (some t250) = some r := H); (have A6 := Aside0.mk A60); clear A60
      obtain rfl := Option.some.inj H
      (go_enter Tryd.func67, Tryd.ntmps67); (go_wp2_with (first | ((with_reducible refine gate_dst (N := 1) rfl ?_); refine box_event ?hg (N := 1) ?hd (cs := #[.bool false, .string a0_1, .string a0_2, .string a0_3]) (t := 45) ?hr ?_; (case hd => rfl); (case hg => rfl); (case hr => first | (go_simp; done) | (go_simp; rfl)); intro gb249 hg w7 hbox hb; have n0_ := Aside0.mk (below_step (by repeat (first | (with_reducible first | exact HB.out | apply below_alloc | apply pw_below_drewN | apply below_drew1) | exact HB.out)) hb); have n1_ := Aside0.mk (hbox); have n2_ := Aside0.mk ((by rw [hg]; exact (below_size (by repeat (first | (with_reducible first | exact HB.out | apply below_alloc | apply pw_below_drewN | apply below_drew1) | exact HB.out))) : w.heap.size ≤ gb249)); have n3_ := Aside0.mk ((by rw [hg]; exact (below_size (by repeat (first | (with_reducible first | exact HB.out | apply below_alloc | apply pw_below_drewN | apply below_drew1) | exact HB.out))) : w.heap.size ≤ gb249)); clear HB; have HB := n0_; have BK249 := n1_; have GW249 := n2_; have GE249 := n3_; clear n0_ n1_ n2_ n3_; clear hb hbox hg; have hcz8_0 : w7.cell? ⟨gb249, 0, none⟩ = some (.bool false) := (blk_cell BK249.out 0).trans rfl; have hcz8_1 : w7.cell? ⟨gb249, 1, none⟩ = some (.string a0_1) := (blk_cell BK249.out 1).trans rfl; have hcz8_2 : w7.cell? ⟨gb249, 2, none⟩ = some (.string a0_2) := (blk_cell BK249.out 2).trans rfl; have hcz8_3 : w7.cell? ⟨gb249, 3, none⟩ = some (.string a0_3) := (blk_cell BK249.out 3).trans rfl; have hfz8_0 := blk_frozen BK249.out 0; have hfz8_1 := blk_frozen BK249.out 1; have hfz8_2 := blk_frozen BK249.out 2; have hfz8_3 := blk_frozen BK249.out 3) | ((with_reducible refine gate_callee (f := 56) rfl ?_); refine goesL_ (some 12) rfl rfl Tryd.func56 (by kernel_rfl) rfl #[.string (a0_1 ++ a0_2)] rfl (by (try simp only [List.map_toArray, List.map_cons, List.map_nil]); first | done | rfl | (simp only [List.length_drop, List.length_take]; rfl)) ?_; (with_reducible refine (merkle_Leaf.calls (a0_1 ++ a0_2) t250 _ (by first | ((repeat (first | exact HG_.out | apply GW.drewN | apply GW.drew | apply GW.alloc)); done) | exact GW.below HG_.out (by repeat (first | (with_reducible first | exact HB.out | apply below_alloc | apply pw_below_drewN | apply below_drew1 | refine below_set ?_ GE249.out) | exact HB.out))) A6.out).mono ?_); rintro e w9 ⟨rfl, hb⟩; refine ⟨_, rfl, ?_⟩; have n0_ := Aside0.mk (blk_below (g := gb249) (o := .cells #[.bool false, .string a0_1, .string a0_2, .string a0_3] 45 (0, 0)) (by (with_reducible repeat (first | refine blk_drewN ?_ _ | refine blk_drew ?_ | refine blk_alloc ?_ _)); exact BK249.out) hb); have n1_ := Aside0.mk (below_step (by repeat (first | (with_reducible first | exact HB.out | apply below_alloc | apply pw_below_drewN | apply below_drew1 | refine below_set ?_ GE249.out) | exact HB.out)) hb); clear BK249; clear HB; have BK249 := n0_; have HB := n1_; clear n0_ n1_; (try clear hb); (try clear hb2); (try clear hk); (try clear hi)))); (go_ret); (exact ⟨by first | rfl | (simp [errW_none, errW_some] <;> rfl) | (simp [*, errW_none, errW_some] <;> rfl), by repeat (first | (with_reducible first | exact HB.out | apply below_alloc | apply pw_below_drewN | apply below_drew1 | refine below_set ?_ GE249.out) | exact HB.out)⟩)
    · rw [if_neg c5] at H
      (exact absurd H (by simp))

/-! ### missivelaw20_inner: function 101 -/
mutual
def missivelaw20_inner.l0 : Nat → List ByteArray → Int → Option (List ByteArray)
  | 0, _, _ => none
  | k + 1, x0, x3 => if (wrap64 (2 * x3)) < (x0.length : Int) then (missivelaw20_inner.l0 k x0 (wrap64 (2 * x3))) else (if 0 ≤ x3 then (if x3 ≤ (x0.length : Int) then ((merkle_Root.f k (x0.take (x3 : Int).toNat)).bind fun t253 => (if 1 + t253.size ≤ 9223372036854775807 then ((merkle_Root.f k (x0.drop (x3 : Int).toNat)).bind fun t254 => (if ((⟨#[1]⟩ : ByteArray) ++ t253).size + t254.size ≤ 9223372036854775807 then ((some (([((⟨#[1]⟩ : ByteArray) ++ t253) ++ t254] : List ByteArray) : List ByteArray)).bind fun y255 => ((missivelaw20_inner.f k (x0.take (x3 : Int).toNat)).bind fun t258 => (if y255.length + t258.length < 8796093022208 then ((some (y255 ++ t258 : List ByteArray)).bind fun y261 => ((missivelaw20_inner.f k (x0.drop (x3 : Int).toNat)).bind fun t264 => (if y261.length + t264.length < 8796093022208 then (some (y261 ++ t264)) else (none)))) else (none)))) else (none))) else (none))) else (none)) else (none))
def missivelaw20_inner.f : Nat → List ByteArray → Option (List ByteArray)
  | 0, _ => none
  | k + 1, l0 => if (l0.length : Int) < 2 then (some ([] : List ByteArray)) else (missivelaw20_inner.l0 k l0 1)
end
theorem missivelaw20_inner.mono_l : ∀ k, (∀ y0, LeO (missivelaw20_inner.f k y0) (missivelaw20_inner.f (k + 1) y0)) ∧ (∀ y0 y1, LeO (missivelaw20_inner.l0 k y0 y1) (missivelaw20_inner.l0 (k + 1) y0 y1))
  | 0 => ⟨fun _ r h => by simp [missivelaw20_inner.f] at h, fun _ _ r h => by simp [missivelaw20_inner.l0] at h⟩
  | k + 1 => by
    obtain ⟨ih0, ih1⟩ := missivelaw20_inner.mono_l k
    refine ⟨?_, ?_⟩
    · intro y0
      unfold missivelaw20_inner.f
      repeat' first
      | (with_reducible exact ih0 _)
      | (with_reducible exact ih1 _ _)
      | (with_reducible exact merkle_Root.mono _ _)
      | (with_reducible exact LeO.refl _)
      | (with_reducible exact LeO.none _)
      | (with_reducible refine LeO.ite ?_ ?_)
      | (with_reducible refine LeO.bind ?_ (fun _ => ?_))
      | exact ih0 _
      | exact ih1 _ _
      | exact merkle_Root.mono _ _
      | exact LeO.none _
      | refine LeO.ite ?_ ?_
      | refine LeO.bind ?_ (fun _ => ?_)
    · intro y0 y1
      unfold missivelaw20_inner.l0
      repeat' first
      | (with_reducible exact ih0 _)
      | (with_reducible exact ih1 _ _)
      | (with_reducible exact merkle_Root.mono _ _)
      | (with_reducible exact LeO.refl _)
      | (with_reducible exact LeO.none _)
      | (with_reducible refine LeO.ite ?_ ?_)
      | (with_reducible refine LeO.bind ?_ (fun _ => ?_))
      | exact ih0 _
      | exact ih1 _ _
      | exact merkle_Root.mono _ _
      | exact LeO.none _
      | refine LeO.ite ?_ ?_
      | refine LeO.bind ?_ (fun _ => ?_)
theorem missivelaw20_inner.mono : ∀ a0 k, LeO (missivelaw20_inner.f k a0) (missivelaw20_inner.f (k + 1) a0) := by
  intro a0 k
  obtain ⟨ih0, ih1⟩ := missivelaw20_inner.mono_l k
  exact ih0 a0
set_option maxHeartbeats 8000000 in
set_option maxRecDepth 100000 in
theorem missivelaw20_inner.calls (k : Nat) : ∀ (A0 : Option Addr) (c0 : Nat) (l0 : List ByteArray) (r : List ByteArray) (w : World) (hG : GW w) (hr0 : Kd.C Kd.string w A0 l0.length l0) (hc0 : l0.length ≤ c0) (h : missivelaw20_inner.f k l0 = some r),
    Calls Tryd.prog 101 #[.slice A0 l0.length c0] w fun e w' => ∃ v0_ : Value, e = .returned (v0_) ∧ Kd.R Kd.string 9 w' w.heap.size (fun _ => True) v0_ r ∧ Below w.heap.size w w' := by
  induction k using Nat.strongRecOn with
  | _ k ih =>
  (intro A0 c0 l0 r w hG hr0 hc0 h)
  cases k with
  | zero => exact absurd h (by simp [missivelaw20_inner.f])
  | succ k =>
  (simp only [missivelaw20_inner.f] at h); (have HG_ := Aside0.mk hG); clear hG; (have HR0 := Aside0.mk hr0); (have HC0 := Aside0.mk hc0); clear hr0 hc0; (have HB := Aside0.mk (Below.refl w.heap.size w)); (have H : (if (l0.length : Int) < 2 then (some ([] : List ByteArray)) else (missivelaw20_inner.l0 k l0 1)) = some r := h); clear h
  by_cases c2 : (l0.length : Int) < 2
  · rw [if_pos c2] at H
    (have c2b0 : decide ((l0.length : Int) < 2) = true := decide_eq_true c2); (have c2b1 : decide (l0.length < 2) = true := decide_eq_true (by omega)); clear c2
    obtain rfl := Option.some.inj H
    (go_enter Tryd.func101, Tryd.ntmps101); go_wp2; (go_ret); (exact ⟨_, by first | rfl | (simp [errW_none, errW_some] <;> rfl) | (simp [*, errW_none, errW_some] <;> rfl), by first | exact Kd.R_nil _ _ _ _ _ | exact Kd.N_nil _ _ _ _ _ | exact Kd.V_nil _ _ _ _ _ | exact Kd.Q_nil _ _ _ _ _ | exact Kd.S_nil _ _ _ _ _, by repeat (first | (with_reducible first | exact HB.out | apply below_alloc | apply pw_below_drewN | apply below_drew1) | exact HB.out)⟩)
  · rw [if_neg c2] at H
    (have c2b0 : decide ((l0.length : Int) < 2) = false := decide_eq_false c2); (have c2b1 : decide (l0.length < 2) = false := decide_eq_false (by omega)); clear c2; (have H' := Aside0.mk H); clear H; (go_enter Tryd.func101, Tryd.ntmps101); go_wp2; (go_loopg [3] k (fun kq v3 w' => ∃ (x3_1 : Int), v3 = .int .i64 x3_1 ∧ Aside0 (missivelaw20_inner.l0 kq l0 x3_1 = some r) ∧ Aside0 (kq ≤ k) ∧ Aside0 (Below w.heap.size w w')))
    case atStart => exact ⟨(1), (by first | rfl | (simp; done) | (simp [*]; done)), H', ⟨Nat.le_refl _⟩, ⟨by repeat (first | (with_reducible first | exact HB.out | apply below_alloc | apply pw_below_drewN | apply below_drew1) | exact HB.out)⟩⟩
    case round =>
      (clear H'); (try clear c1); (try clear c2); (try clear c2b0); (try clear c2b1); (try clear p2)
      obtain ⟨x3_1, rfl, HA, HK1, HB⟩ := hrel
      cases gk with
      | zero => exact absurd HA.out (by simp [missivelaw20_inner.l0])
      | succ k1 =>
        (have H := HA.out); clear HA; (simp only [missivelaw20_inner.l0] at H)
        by_cases c3 : (wrap64 (2 * x3_1)) < (l0.length : Int)
        · rw [if_pos c3] at H
          (have c3b0 : decide ((wrap64 (2 * x3_1)) < (l0.length : Int)) = true := decide_eq_true c3); clear c3; (have H' := Aside0.mk H); clear H; go_wp2; (go_roundg k1)
          case measure => have := HK1.out; omega
          case rel => exact ⟨(wrap64 (2 * x3_1)), (by first | rfl | (simp; done) | (simp [*]; done)), H', ⟨by have := HK1.out; omega⟩, ⟨by repeat (first | (with_reducible first | exact HB.out | apply below_alloc | apply pw_below_drewN | apply below_drew1) | exact HB.out)⟩⟩
        · rw [if_neg c3] at H
          (have c3b0 : decide ((wrap64 (2 * x3_1)) < (l0.length : Int)) = false := decide_eq_false c3); clear c3
          by_cases c4 : 0 ≤ x3_1
          · rw [if_pos c4] at H
            (have c4b0 := eq_true c4); (have c4b1 : decide (0 ≤ x3_1) = true := decide_eq_true c4); clear c4
            by_cases c5 : x3_1 ≤ (l0.length : Int)
            · rw [if_pos c5] at H
              (have c5b0 := eq_true c5); (have c5b1 : decide (x3_1 ≤ (l0.length : Int)) = true := decide_eq_true c5); clear c5; (have c6b0 := eq_true (of_decide_eq_true (by first | (with_reducible assumption) | assumption) : 0 ≤ x3_1)); (have c7b0 := eq_true (of_decide_eq_true (by first | (with_reducible assumption) | assumption) : x3_1 ≤ (l0.length : Int))); (replace H := Option.bind_eq_some_iff.mp H)
              obtain ⟨t253, A80, H⟩ := H
              (replace H : (if 1 + t253.size ≤ 9223372036854775807 then ((merkle_Root.f k1 (l0.drop (x3_1 : Int).toNat)).bind fun t254 => (if ((⟨#[1]⟩ : ByteArray) ++ t253).size + t254.size ≤ 9223372036854775807 then ((some (([((⟨#[1]⟩ : ByteArray) ++ t253) ++ t254] : List ByteArray) : List ByteArray)).bind fun y255 => ((missivelaw20_inner.f k1 (l0.take (x3_1 : Int).toNat)).bind fun t258 => (if y255.length + t258.length < 8796093022208 then ((some (y255 ++ t258 : List ByteArray)).bind fun y261 => ((missivelaw20_inner.f k1 (l0.drop (x3_1 : Int).toNat)).bind fun t264 => (if y261.length + t264.length < 8796093022208 then (some (y261 ++ t264)) else (none)))) else (none)))) else (none))) else (none)) = some r := H); (have A8 := Aside0.mk A80); clear A80
              by_cases c9 : 1 + t253.size ≤ 9223372036854775807
              · rw [if_pos c9] at H
                (have c9b0 := eq_true c9); (have c9b1 : decide (1 + t253.size ≤ 9223372036854775807) = true := decide_eq_true c9); (try have c9b2 : (9223372036854775807 < 1 + t253.size) = False := eq_false (Nat.not_lt.2 c9)); (replace H := Option.bind_eq_some_iff.mp H)
                obtain ⟨t254, A100, H⟩ := H
                (replace H : (if ((⟨#[1]⟩ : ByteArray) ++ t253).size + t254.size ≤ 9223372036854775807 then ((some (([((⟨#[1]⟩ : ByteArray) ++ t253) ++ t254] : List ByteArray) : List ByteArray)).bind fun y255 => ((missivelaw20_inner.f k1 (l0.take (x3_1 : Int).toNat)).bind fun t258 => (if y255.length + t258.length < 8796093022208 then ((some (y255 ++ t258 : List ByteArray)).bind fun y261 => ((missivelaw20_inner.f k1 (l0.drop (x3_1 : Int).toNat)).bind fun t264 => (if y261.length + t264.length < 8796093022208 then (some (y261 ++ t264)) else (none)))) else (none)))) else (none)) = some r := H); (have A10 := Aside0.mk A100); clear A100
                by_cases c11 : ((⟨#[1]⟩ : ByteArray) ++ t253).size + t254.size ≤ 9223372036854775807
                · rw [if_pos c11] at H
                  (have c11b0 := eq_true c11); (have c11b1 : decide (((⟨#[1]⟩ : ByteArray) ++ t253).size + t254.size ≤ 9223372036854775807) = true := decide_eq_true c11); (try have c11b2 : (9223372036854775807 < ((⟨#[1]⟩ : ByteArray) ++ t253).size + t254.size) = False := eq_false (Nat.not_lt.2 c11)); (try (have c11n := c11b2; simp only [ByteArray.size_append, size_mk_, List.size_toArray, List.length_cons, List.length_nil, Nat.zero_add, Nat.reduceAdd] at c11n))
                  obtain ⟨y255, hy255⟩ : ∃ y_ : List ByteArray, y_ = (([((⟨#[1]⟩ : ByteArray) ++ t253) ++ t254] : List ByteArray)) := ⟨_, rfl⟩
                  (replace H : ((missivelaw20_inner.f k1 (l0.take (x3_1 : Int).toNat)).bind fun t258 => (if y255.length + t258.length < 8796093022208 then ((some (y255 ++ t258 : List ByteArray)).bind fun y261 => ((missivelaw20_inner.f k1 (l0.drop (x3_1 : Int).toNat)).bind fun t264 => (if y261.length + t264.length < 8796093022208 then (some (y261 ++ t264)) else (none)))) else (none))) = some r := by first | (rw [hy255]; with_reducible exact H) | (have H2_ := (Option.bind_some _ _).symm.trans H; rw [hy255]; with_reducible exact H2_) | (have H2_ := (Option.bind_some _ _).symm.trans H; with_reducible exact H2_) | with_reducible exact H | (rw [hy255]; exact H) | exact H); (have Ny255 := Aside0.mk hy255); clear hy255; (replace H := Option.bind_eq_some_iff.mp H)
                  obtain ⟨t258, A120, H⟩ := H
                  (replace H : (if y255.length + t258.length < 8796093022208 then ((some (y255 ++ t258 : List ByteArray)).bind fun y261 => ((missivelaw20_inner.f k1 (l0.drop (x3_1 : Int).toNat)).bind fun t264 => (if y261.length + t264.length < 8796093022208 then (some (y261 ++ t264)) else (none)))) else (none)) = some r := H); (have A12 := Aside0.mk A120); clear A120
                  by_cases c13 : y255.length + t258.length < 8796093022208
                  · rw [if_pos c13] at H
                    (have LMc13 := Aside0.mk c13); clear c13
                    obtain ⟨y261, hy261⟩ : ∃ y_ : List ByteArray, y_ = (y255 ++ t258) := ⟨_, rfl⟩
                    (replace H : ((missivelaw20_inner.f k1 (l0.drop (x3_1 : Int).toNat)).bind fun t264 => (if y261.length + t264.length < 8796093022208 then (some (y261 ++ t264)) else (none))) = some r := by first | (rw [hy261]; with_reducible exact H) | (have H2_ := (Option.bind_some _ _).symm.trans H; rw [hy261]; with_reducible exact H2_) | (have H2_ := (Option.bind_some _ _).symm.trans H; with_reducible exact H2_) | with_reducible exact H | (rw [hy261]; exact H) | exact H); (have Ny261 := Aside0.mk hy261); clear hy261; (replace H := Option.bind_eq_some_iff.mp H)
                    obtain ⟨t264, A140, H⟩ := H
                    (replace H : (if y261.length + t264.length < 8796093022208 then (some (y261 ++ t264)) else (none)) = some r := H); (have A14 := Aside0.mk A140); clear A140
                    by_cases c15 : y261.length + t264.length < 8796093022208
                    · rw [if_pos c15] at H
                      (have LMc15 := Aside0.mk c15); clear c15
                      obtain ⟨y267, hy267⟩ : ∃ y_ : List ByteArray, y_ = (y261 ++ t264) := ⟨_, rfl⟩
                      (replace H : (some y267) = some r := by first | (rw [hy267]; with_reducible exact H) | (have H2_ := (Option.bind_some _ _).symm.trans H; rw [hy267]; with_reducible exact H2_) | (have H2_ := (Option.bind_some _ _).symm.trans H; with_reducible exact H2_) | with_reducible exact H | (rw [hy267]; exact H) | exact H); (have Ny267 := Aside0.mk hy267); clear hy267
                      obtain rfl := Option.some.inj H
                      obtain ⟨i016, hi016, _, hsz16, _⟩ := info_parts info9
                      obtain ⟨hcut16, hA16, hC16⟩ := print_take_of (P := Tryd.prog) Value.string (⟨#[]⟩ : ByteArray) 22 9 .i64 Tryd.underlying22 hi016 hsz16 A0 c0 l0 x3_1 (of_decide_eq_true (by first | (with_reducible assumption) | assumption)) (of_decide_eq_true (by first | (with_reducible assumption) | assumption)) HC0.out
                      (have HR251 := Aside0.mk (Kd.C_of_reads (h1 := fun _ => rfl) (hA16 _ (Kd.reads_of_C HR0.out)))); (have HC251 := Aside0.mk hC16); clear hA16 hC16 hi016 hsz16
                      obtain ⟨i017, hi017, _, hsz17, _⟩ := info_parts info9
                      obtain ⟨A17, hcut17, hA17, hC17⟩ := print_drop_of (P := Tryd.prog) Value.string (⟨#[]⟩ : ByteArray) 22 9 .i64 Tryd.underlying22 hi017 hsz17 A0 c0 l0 x3_1 (of_decide_eq_true (by first | (with_reducible assumption) | assumption)) (of_decide_eq_true (by first | (with_reducible assumption) | assumption)) HC0.out
                      (have HR252 := Aside0.mk (Kd.C_of_reads (h1 := fun _ => rfl) (hA17 _ (Kd.reads_of_C HR0.out)))); (have HC252 := Aside0.mk hC17); clear hA17 hC17 hi017 hsz17; (go_wp2_with (first | ((with_reducible refine gate_callee (f := 55) rfl ?_); refine goesL_ (some 24) rfl rfl Tryd.func55 (by kernel_rfl) rfl #[.slice A0 (l0.take (x3_1 : Int).toNat).length c0] rfl (by (try simp only [List.map_toArray, List.map_cons, List.map_nil]); first | done | (rw [show (l0.take (x3_1 : Int).toNat).length = x3_1.toNat from (by rw [List.length_take]; have h_ : (x3_1 : Int) ≤ (l0.length : Int) := of_decide_eq_true (by first | (with_reducible assumption) | assumption); omega)] <;> rfl) | rfl | (simp only [List.length_drop, List.length_take]; rfl)) ?_; (with_reducible refine (merkle_Root.calls k1 _ _ (l0.take (x3_1 : Int).toNat) t253 _ (by first | ((repeat (first | exact HG_.out | apply GW.drewN | apply GW.drew | apply GW.alloc)); done) | exact GW.below HG_.out (by repeat (first | (with_reducible first | exact HB.out | apply below_alloc | apply pw_below_drewN | apply below_drew1) | exact HB.out))) ?side1 ?side2 A8.out).mono ?_); (case side1 => repeat (first | exact (Kd.C_below HR251.out HB.out) | (with_reducible refine Kd.C_alloc ?_ _) | (with_reducible refine Kd.C_drewN ?_ _) | (with_reducible refine Kd.C_drew ?_))); (case side2 => exact HC251.out); rintro e w18 ⟨rfl, hb⟩; refine ⟨_, rfl, ?_⟩; have n0_ := Aside0.mk (below_step (by repeat (first | (with_reducible first | exact HB.out | apply below_alloc | apply pw_below_drewN | apply below_drew1) | exact HB.out)) hb); clear HB; have HB := n0_; clear n0_; (try clear hb); (try clear hb2); (try clear hk); (try clear hi)) | ((with_reducible refine gate_callee (f := 55) rfl ?_); refine goesL_ (some 27) rfl rfl Tryd.func55 (by kernel_rfl) rfl #[.slice A17 (l0.drop (x3_1 : Int).toNat).length (c0 - x3_1.toNat)] rfl (by (try simp only [List.map_toArray, List.map_cons, List.map_nil]); first | done | (rw [show (l0.drop (x3_1 : Int).toNat).length = (l0.length - x3_1.toNat) from List.length_drop] <;> rfl) | rfl | (simp only [List.length_drop, List.length_take]; rfl)) ?_; (with_reducible refine (merkle_Root.calls k1 _ _ (l0.drop (x3_1 : Int).toNat) t254 _ (by first | ((repeat (first | exact HG_.out | apply GW.drewN | apply GW.drew | apply GW.alloc)); done) | exact GW.below HG_.out (by repeat (first | (with_reducible first | exact HB.out | apply below_alloc | apply pw_below_drewN | apply below_drew1) | exact HB.out))) ?side1 ?side2 A10.out).mono ?_); (case side1 => repeat (first | exact (Kd.C_below HR252.out HB.out) | (with_reducible refine Kd.C_alloc ?_ _) | (with_reducible refine Kd.C_drewN ?_ _) | (with_reducible refine Kd.C_drew ?_))); (case side2 => exact HC252.out); rintro e w19 ⟨rfl, hb⟩; refine ⟨_, rfl, ?_⟩; have n0_ := Aside0.mk (below_step (by repeat (first | (with_reducible first | exact HB.out | apply below_alloc | apply pw_below_drewN | apply below_drew1) | exact HB.out)) hb); clear HB; have HB := n0_; clear n0_; (try clear hb); (try clear hb2); (try clear hk); (try clear hi)) | ((with_reducible refine gate_dst (N := 29) rfl ?_); refine Kd.R_lit Kd.string _ 9 ?hg (N := 29) ?hd (xs := ([((⟨#[1]⟩ : ByteArray) ++ t253) ++ t254] : List ByteArray)) (inner := [.string (((⟨#[1]⟩ : ByteArray) ++ t253) ++ t254)]) (ok := fun _ => True) (okp := fun _ => True) ?hr ?hp (fun _ hk => hk) trivial (Below.refl _ _) (Nat.le_refl _) (by simp) ?_; (case hd => rfl); (case hg => rfl); (case hr => first | (go_simp; done) | (go_simp; rfl)); (case hp => exact (Reps.one (show Kd.M Kd.string _ _ _ (((⟨#[1]⟩ : ByteArray) ++ t253) ++ t254) [.string (((⟨#[1]⟩ : ByteArray) ++ t253) ++ t254)] from rfl) (Reps.none _ _))); intro v256 w20 ho21 hb hg_ hnew_; clear hg_ hnew_; (first | rw [← Ny255.out] at ho21 | (simp only [Int.reduceToNat] at ho21; rw [← Ny255.out] at ho21)); have n0_ := Aside0.mk (Kd.R_lower ho21 (below_size (by repeat (first | (with_reducible first | exact HB.out | apply below_alloc | apply pw_below_drewN | apply below_drew1) | exact HB.out)))); have n1_ := Aside0.mk (below_step (by repeat (first | (with_reducible first | exact HB.out | apply below_alloc | apply pw_below_drewN | apply below_drew1) | exact HB.out)) hb); clear HB; have HO257 := n0_; have HB := n1_; clear n0_ n1_; clear hb ho21) | ((with_reducible refine gate_callee (f := 101) rfl ?_); refine goesL_ (some 32) rfl rfl Tryd.func101 (by kernel_rfl) rfl #[.slice A0 (l0.take (x3_1 : Int).toNat).length c0] rfl (by (try simp only [List.map_toArray, List.map_cons, List.map_nil]); first | done | (rw [show (l0.take (x3_1 : Int).toNat).length = x3_1.toNat from (by rw [List.length_take]; have h_ : (x3_1 : Int) ≤ (l0.length : Int) := of_decide_eq_true (by first | (with_reducible assumption) | assumption); omega)] <;> rfl) | rfl | (simp only [List.length_drop, List.length_take]; rfl)) ?_; (with_reducible refine (ih k1 (by have := HK1.out; omega) _ _ (l0.take (x3_1 : Int).toNat) t258 _ (by first | ((repeat (first | exact HG_.out | apply GW.drewN | apply GW.drew | apply GW.alloc)); done) | exact GW.below HG_.out (by repeat (first | (with_reducible first | exact HB.out | apply below_alloc | apply pw_below_drewN | apply below_drew1) | exact HB.out))) ?side1 ?side2 A12.out).mono ?_); (case side1 => repeat (first | exact (Kd.C_below HR251.out HB.out) | (with_reducible refine Kd.C_alloc ?_ _) | (with_reducible refine Kd.C_drewN ?_ _) | (with_reducible refine Kd.C_drew ?_))); (case side2 => exact HC251.out); rintro e w22 ⟨v259, rfl, ho0, hb⟩; refine ⟨_, rfl, ?_⟩; have n0_ := Aside0.mk (Kd.R_elder' (by (with_reducible repeat (first | apply Kd.R_alloc | apply Kd.R_drewN | apply Kd.R_drew)); exact HO257.out) (Kd.R_base ho0) hb); have n1_ := Aside0.mk (Kd.R_lower (Kd.R_new' ho0 (Kd.R_lt (by (with_reducible repeat (first | apply Kd.R_alloc | apply Kd.R_drewN | apply Kd.R_drew)); exact HO257.out))) (below_size (by repeat (first | (with_reducible first | exact HB.out | apply below_alloc | apply pw_below_drewN | apply below_drew1) | exact HB.out)))); have n2_ := Aside0.mk (below_step (by repeat (first | (with_reducible first | exact HB.out | apply below_alloc | apply pw_below_drewN | apply below_drew1) | exact HB.out)) hb); clear HO257; clear HB; have HO257 := n0_; have HO260 := n1_; have HB := n2_; clear n0_ n1_ n2_; (try clear hb); (try clear hb2); (try clear hk); (try clear hi); (try clear ho0); obtain ⟨Ao24, co24, eo24⟩ := Kd.R_slice HO260.out; subst eo24) | ((with_reducible refine gate_builtin (b := .append) (xs := #[.tmp 30, .tmp 32]) rfl ?_); at_builtin; refine Kd.R_append_rows Kd.string (w0 := w) w.heap.size rfl (.tmp 30) (.tmp 32) 22 9 (.string ⟨#[]⟩) 16 rfl Tryd.underlying22 info9 rfl (by decide) (by omega) v256 y255 t258 _ _ _ (fun k_ => some k_ ≠ (.slice Ao24 t258.length co24 : Value).ownBlock) (fun _ => False) rfl rfl ?aO ?aR (fun _ _ h => h) (fun _ h => h.elim) ?aF ?aB ?aS ?aL ?_; (case aR => repeat (first | exact (Kd.R_reads' HO260.out).2.2 | (with_reducible refine Kd.C_alloc ?_ _) | (with_reducible refine Kd.C_drewN ?_ _) | (with_reducible refine Kd.C_drew ?_))); (case aB => exact (by repeat (first | (with_reducible first | exact HB.out | apply below_alloc | apply pw_below_drewN | apply below_drew1) | exact HB.out))); (case aF => exact (fun k_ hk => Kd.fresh' (Kd.R_lt (by (with_reducible repeat (first | apply Kd.R_alloc | apply Kd.R_drewN | apply Kd.R_drew)); exact HO260.out)) k_ hk)); (case aO => exact (by (with_reducible repeat (first | apply Kd.R_alloc | apply Kd.R_drewN | apply Kd.R_drew)); exact Kd.R_mono HO257.out (fun _ hk => hk.2))); (case aS => exact (below_size (by repeat (first | (with_reducible first | exact HB.out | apply below_alloc | apply pw_below_drewN | apply below_drew1) | exact HB.out)))); (case aL => have := LMc13.out; omega); intro v262 w23 ho hb hg hat; rw [← Ny261.out] at ho; have n0_ := Aside0.mk (Kd.R_after (ok := (fun _ => True)) (by (with_reducible repeat (first | apply Kd.R_alloc | apply Kd.R_drewN | apply Kd.R_drew)); exact HO260.out) hg hat); have n1_ := Aside0.mk (hb); have n2_ := Aside0.mk (ho); clear HO260; clear HB; clear HO257; have HO260 := n0_; have HB := n1_; have HO263 := n2_; clear n0_ n1_ n2_; clear ho hb hg hat) | ((with_reducible refine gate_callee (f := 101) rfl ?_); refine goesL_ (some 36) rfl rfl Tryd.func101 (by kernel_rfl) rfl #[.slice A17 (l0.drop (x3_1 : Int).toNat).length (c0 - x3_1.toNat)] rfl (by (try simp only [List.map_toArray, List.map_cons, List.map_nil]); first | done | (rw [show (l0.drop (x3_1 : Int).toNat).length = (l0.length - x3_1.toNat) from List.length_drop] <;> rfl) | rfl | (simp only [List.length_drop, List.length_take]; rfl)) ?_; (with_reducible refine (ih k1 (by have := HK1.out; omega) _ _ (l0.drop (x3_1 : Int).toNat) t264 _ (by first | ((repeat (first | exact HG_.out | apply GW.drewN | apply GW.drew | apply GW.alloc)); done) | exact GW.below HG_.out (by repeat (first | (with_reducible first | exact HB.out | apply below_alloc | apply pw_below_drewN | apply below_drew1) | exact HB.out))) ?side1 ?side2 A14.out).mono ?_); (case side1 => repeat (first | exact (Kd.C_below HR252.out HB.out) | (with_reducible refine Kd.C_alloc ?_ _) | (with_reducible refine Kd.C_drewN ?_ _) | (with_reducible refine Kd.C_drew ?_))); (case side2 => exact HC252.out); rintro e w25 ⟨v265, rfl, ho0, hb⟩; refine ⟨_, rfl, ?_⟩; have n0_ := Aside0.mk (Kd.R_elder' (by (with_reducible repeat (first | apply Kd.R_alloc | apply Kd.R_drewN | apply Kd.R_drew)); exact HO260.out) (Kd.R_base ho0) hb); have n1_ := Aside0.mk (Kd.R_elder' (by (with_reducible repeat (first | apply Kd.R_alloc | apply Kd.R_drewN | apply Kd.R_drew)); exact HO263.out) (Kd.R_base ho0) hb); have n2_ := Aside0.mk (Kd.R_lower (Kd.R_new' (Kd.R_new' ho0 (Kd.R_lt (by (with_reducible repeat (first | apply Kd.R_alloc | apply Kd.R_drewN | apply Kd.R_drew)); exact HO260.out))) (Kd.R_lt (by (with_reducible repeat (first | apply Kd.R_alloc | apply Kd.R_drewN | apply Kd.R_drew)); exact HO263.out))) (below_size (by repeat (first | (with_reducible first | exact HB.out | apply below_alloc | apply pw_below_drewN | apply below_drew1) | exact HB.out)))); have n3_ := Aside0.mk (below_step (by repeat (first | (with_reducible first | exact HB.out | apply below_alloc | apply pw_below_drewN | apply below_drew1) | exact HB.out)) hb); clear HO260; clear HO263; clear HB; have HO260 := n0_; have HO263 := n1_; have HO266 := n2_; have HB := n3_; clear n0_ n1_ n2_ n3_; (try clear hb); (try clear hb2); (try clear hk); (try clear hi); (try clear ho0); obtain ⟨Ao27, co27, eo27⟩ := Kd.R_slice HO266.out; subst eo27) | ((with_reducible refine gate_builtin (b := .append) (xs := #[.tmp 34, .tmp 36]) rfl ?_); at_builtin; refine Kd.R_append_rows Kd.string (w0 := w) w.heap.size rfl (.tmp 34) (.tmp 36) 22 9 (.string ⟨#[]⟩) 16 rfl Tryd.underlying22 info9 rfl (by decide) (by omega) v262 y261 t264 _ _ _ (fun k_ => some k_ ≠ (.slice Ao24 t258.length co24 : Value).ownBlock ∧ some k_ ≠ (.slice Ao27 t264.length co27 : Value).ownBlock) (fun _ => False) rfl rfl ?aO ?aR (fun _ _ h => h) (fun _ h => h.elim) ?aF ?aB ?aS ?aL ?_; (case aR => repeat (first | exact (Kd.R_reads' HO266.out).2.2 | (with_reducible refine Kd.C_alloc ?_ _) | (with_reducible refine Kd.C_drewN ?_ _) | (with_reducible refine Kd.C_drew ?_))); (case aB => exact (by repeat (first | (with_reducible first | exact HB.out | apply below_alloc | apply pw_below_drewN | apply below_drew1) | exact HB.out))); (case aF => exact (fun k_ hk => ⟨Kd.fresh' (Kd.R_lt (by (with_reducible repeat (first | apply Kd.R_alloc | apply Kd.R_drewN | apply Kd.R_drew)); exact HO260.out)) k_ hk, Kd.fresh' (Kd.R_lt (by (with_reducible repeat (first | apply Kd.R_alloc | apply Kd.R_drewN | apply Kd.R_drew)); exact HO266.out)) k_ hk⟩)); (case aO => exact (by (with_reducible repeat (first | apply Kd.R_alloc | apply Kd.R_drewN | apply Kd.R_drew)); exact HO263.out)); (case aS => exact (below_size (by repeat (first | (with_reducible first | exact HB.out | apply below_alloc | apply pw_below_drewN | apply below_drew1) | exact HB.out)))); (case aL => have := LMc15.out; omega); intro v268 w26 ho hb hg hat; rw [← Ny267.out] at ho; have n0_ := Aside0.mk (Kd.R_after (ok := (fun k_ => some k_ ≠ (.slice Ao27 t264.length co27 : Value).ownBlock)) (by (with_reducible repeat (first | apply Kd.R_alloc | apply Kd.R_drewN | apply Kd.R_drew)); exact Kd.R_mono HO260.out (fun _ hk => ⟨hk.2, hk.1.2⟩)) hg hat); have n1_ := Aside0.mk (Kd.R_after (ok := (fun k_ => some k_ ≠ (.slice Ao24 t258.length co24 : Value).ownBlock)) (by (with_reducible repeat (first | apply Kd.R_alloc | apply Kd.R_drewN | apply Kd.R_drew)); exact Kd.R_mono HO266.out (fun _ hk => ⟨hk.1.2, hk.2⟩)) hg hat); have n2_ := Aside0.mk (hb); have n3_ := Aside0.mk (ho); clear HO260; clear HO266; clear HB; clear HO263; have HO260 := n0_; have HO266 := n1_; have HB := n2_; have HO269 := n3_; clear n0_ n1_ n2_ n3_; clear ho hb hg hat))); (go_ret); (exact ⟨_, by first | rfl | (simp [errW_none, errW_some] <;> rfl) | (simp [*, errW_none, errW_some] <;> rfl), by (with_reducible repeat (first | apply Kd.R_alloc | apply Kd.R_drewN | apply Kd.R_drew)); exact Kd.R_mono HO269.out (fun _ hk => trivial), by repeat (first | (with_reducible first | exact HB.out | apply below_alloc | apply pw_below_drewN | apply below_drew1) | exact HB.out)⟩)
                    · rw [if_neg c15] at H
                      (exact absurd H (by simp))
                  · rw [if_neg c13] at H
                    (exact absurd H (by simp))
                · rw [if_neg c11] at H
                  (exact absurd H (by simp))
              · rw [if_neg c9] at H
                (exact absurd H (by simp))
            · rw [if_neg c5] at H
              (exact absurd H (by simp))
          · rw [if_neg c4] at H
            (exact absurd H (by simp))

end Go.Proofs.YtjnlppmodagegaaDoor.PPd
