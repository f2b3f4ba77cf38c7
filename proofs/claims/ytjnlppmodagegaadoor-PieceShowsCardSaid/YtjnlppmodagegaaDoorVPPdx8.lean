/- Printed for this claim by a program over the kit's print: Go functions as Lean functions, each with the proof that the call comes to what the function says. -/
import Derived.Test.YtjnlppmodagegaaDoorVPPdx0
import Derived.Test.YtjnlppmodagegaaDoorVPPdx3
import Derived.Test.YtjnlppmodagegaaDoorVPPdx4
import Derived.Test.YtjnlppmodagegaaDoorVPPdx7
namespace Go.Proofs.YtjnlppmodagegaaDoor.PPd
open Go.RowKit Go.Proofs.YtjnlppmodagegaaDoorW.PrintWords Go.Proofs.YtjnlppmodagegaaDoorW.PrintLast Go.Proofs.YtjnlppmodagegaaDoorW.PrintMore
theorem sqAlj8_ {α : Type} (l : List α) (i : Nat) (a : α) : l.toArray.setIfInBounds i a = (l.set i a).toArray := List.setIfInBounds_toArray l i a
theorem sqBlj8_ {α : Type} (x a : α) (l : List α) : (x :: l).set 0 a = a :: l := rfl
theorem sqClj8_ {α : Type} (x a : α) (l : List α) (n : Nat) : (x :: l).set (n + 1) a = x :: l.set n a := rfl
theorem sqUlj8_ {P : Program} {md : Region.Mode} {ops : Array Oper} {Q : Exit → Act → World → Prop} {S : World → Prop} {ds : List Nat} {T : Bool × List (List Nat × List Nat)} {i : Nat} {N : Option Tmp} {oi : Oper} {fuel : Nat} {l : Array Bool} {a : Act} {w : World} (l' : Array Bool) (hi : ops[i]? = some oi) (hN : oi.dst = N) (hT : Aside0 (rtab md ops = T)) (hQ : ∀ c a w, Q (.panic c) (a.put oi.dst undef) w → Q (.panic c) a w) (hy : Yields P ops oi undef a) {a' : Act} (h : wpAnyLast P md ops Q S ds fuel l' a' w) (hc : anyT T l.toList l'.toList i = true := by kernel_rfl) (ha : a.put N undef = a' := by simp only [Act.put, sqAlj8_, sqBlj8_, sqClj8_, i64_w, i32_w]; rfl) : wpAnyLast P md ops Q S ds (fuel + 1) l a w := pure_ l' hi hN (any_of hT.out hc) hQ hy ha h
theorem sqVlj8_ {P : Program} {md : Region.Mode} {ops : Array Oper} {Q : Exit → Act → World → Prop} {S : World → Prop} {ds : List Nat} {T : Bool × List (List Nat × List Nat)} {i : Nat} {N : Option Tmp} {oi : Oper} {fuel : Nat} {l : Array Bool} {a : Act} {w : World} {v : Value} (l' : Array Bool) (hi : ops[i]? = some oi) (hN : oi.dst = N) (hT : Aside0 (rtab md ops = T)) (hQ : ∀ c a w, Q (.panic c) (a.put oi.dst v) w → Q (.panic c) a w) {a' : Act} (h : wpAnyLast P md ops Q S ds fuel l' a' w) (hc : anyT T l.toList l'.toList i = true := by kernel_rfl) (hy : Yields P ops oi v a := by exact Or.inl ⟨by rfl, by intro w'; go_simp; with_reducible rfl⟩) (ha : a.put N v = a' := by simp only [Act.put, sqAlj8_, sqBlj8_, sqClj8_, i64_w, i32_w]; rfl) : wpAnyLast P md ops Q S ds (fuel + 1) l a w := pure_ l' hi hN (any_of hT.out hc) hQ hy ha h
theorem sqWlj8_0 {P : Prop} (h : P := by repeat (first | (with_reducible first | exact HB.out | apply below_alloc | apply pw_below_drewN | apply below_drew1) | exact HB.out)) : P := h
theorem sqWlj8_1 {P : Prop} (h : P := by (with_reducible repeat (first | apply Kd.R_alloc | apply Kd.R_drewN | apply Kd.R_drew)); exact HO_3.out) : P := h
theorem sqWlj8_2 {P : Prop} (h : P := by (with_reducible repeat (first | apply Kd.R_alloc | apply Kd.R_drewN | apply Kd.R_drew)); exact HO_4.out) : P := h
theorem sqWlj8_3 {P : Prop} (h : P := by (with_reducible repeat (first | apply Kd.R_alloc | apply Kd.R_drewN | apply Kd.R_drew)); exact HO274.out) : P := h
theorem sqWlj8_4 {P : Prop} (h : P := by (with_reducible repeat (first | apply Kd.R_alloc | apply Kd.R_drewN | apply Kd.R_drew)); exact HO285.out) : P := h
theorem sqWlj8_5 {P : Prop} (h : P := by (with_reducible repeat (first | apply Kd.R_alloc | apply Kd.R_drewN | apply Kd.R_drew)); exact HO288.out) : P := h
theorem sqWlj8_6 {P : Prop} (h : P := by (with_reducible repeat (first | apply Kd.R_alloc | apply Kd.R_drewN | apply Kd.R_drew)); exact HO294.out) : P := h
theorem sqWlj8_7 {P : Prop} (h : P := by (with_reducible repeat (first | apply Kd.R_alloc | apply Kd.R_drewN | apply Kd.R_drew)); exact HO_5.out) : P := h
theorem sqWlj8_8 {P : Prop} (h : P := by (with_reducible repeat (first | apply Kd.R_alloc | apply Kd.R_drewN | apply Kd.R_drew)); exact HO_6.out) : P := h
theorem sqWlj8_9 {P : Prop} (h : P := by (with_reducible repeat (first | apply Kd.R_alloc | apply Kd.R_drewN | apply Kd.R_drew)); exact HO_7.out) : P := h
abbrev blj8_16_0 : Array Bool := #[false, false, false, false, false, false, false, false, false, false, false, false, false, false, false, false]
abbrev blj8_16_1 : Array Bool := #[true, false, false, false, false, false, false, false, false, false, false, false, false, false, false, false]
abbrev blj8_16_11 : Array Bool := #[true, true, true, true, true, true, true, true, true, true, true, false, false, false, false, false]
abbrev blj8_16_12 : Array Bool := #[true, true, true, true, true, true, true, true, true, true, true, true, false, false, false, false]
abbrev blj8_16_13 : Array Bool := #[true, true, true, true, true, true, true, true, true, true, true, true, true, false, false, false]
abbrev blj8_16_14 : Array Bool := #[true, true, true, true, true, true, true, true, true, true, true, true, true, true, false, false]
abbrev blj8_16_15 : Array Bool := #[true, true, true, true, true, true, true, true, true, true, true, true, true, true, true, false]
abbrev blj8_16_16 : Array Bool := #[true, true, true, true, true, true, true, true, true, true, true, true, true, true, true, true]
abbrev blj8_16_2 : Array Bool := #[true, true, false, false, false, false, false, false, false, false, false, false, false, false, false, false]
abbrev blj8_16_3 : Array Bool := #[true, true, true, false, false, false, false, false, false, false, false, false, false, false, false, false]
abbrev blj8_16_4 : Array Bool := #[true, true, true, true, false, false, false, false, false, false, false, false, false, false, false, false]
abbrev blj8_16_5 : Array Bool := #[true, true, true, true, true, false, false, false, false, false, false, false, false, false, false, false]
abbrev blj8_16_x19f : Array Bool := #[true, true, true, true, true, false, false, true, true, false, false, false, false, false, false, false]
abbrev blj8_16_x39f : Array Bool := #[true, true, true, true, true, false, false, true, true, true, false, false, false, false, false, false]
abbrev blj8_16_x79f : Array Bool := #[true, true, true, true, true, false, false, true, true, true, true, false, false, false, false, false]
abbrev blj8_16_x7bf : Array Bool := #[true, true, true, true, true, true, false, true, true, true, true, false, false, false, false, false]
abbrev blj8_16_x9f : Array Bool := #[true, true, true, true, true, false, false, true, false, false, false, false, false, false, false, false]
attribute [local go_sem] max2_int min2_int max_two min_two max_three min_three max_four min_four   -- for this text's walks alone
set_option linter.unusedVariables false
set_option linter.unusedSimpArgs false

/-! ### missivelaw20_told: function 66 -/
def missivelaw20_told.l0 : Nat → List (S45) → List ByteArray → List ByteArray → Int → Option (List ByteArray)
  | 0, _, _, _, _ => none
  | k + 1, x0, x3, x4, x5 => if x5 < (x0.length : Int) then (if 0 ≤ x5 then ((missivelaw20_leaf.f ((rd_T45 x0 x5).f0) ((rd_T45 x0 x5).f1) ((rd_T45 x0 x5).f2) ((rd_T45 x0 x5).f3)).bind fun t271 => (if x3.length < 8796093022208 then ((some (x3 ++ [t271] : List ByteArray)).bind fun y272 => (if ((rd_T45 x0 x5).f0 = true) then (missivelaw20_told.l0 k x0 y272 x4 (wrap64 (x5 + 1))) else (if 1 + ((rd_T45 x0 x5).f1).size ≤ 9223372036854775807 then (if ((⟨#[0]⟩ : ByteArray) ++ ((rd_T45 x0 x5).f1)).size + ((rd_T45 x0 x5).f2).size ≤ 9223372036854775807 then (if x4.length < 8796093022208 then (missivelaw20_told.l0 k x0 y272 (x4 ++ [((⟨#[0]⟩ : ByteArray) ++ ((rd_T45 x0 x5).f1)) ++ ((rd_T45 x0 x5).f2)]) (wrap64 (x5 + 1))) else (none)) else (none)) else (none)))) else (none))) else (none)) else ((wire_Num.f (x3.length : Int)).bind fun t281 => ((merkle_Root.f k x3).bind fun t282 => (if t281.size + t282.size ≤ 9223372036854775807 then (if x4.length < 8796093022208 then ((some (x4 ++ [t281 ++ t282] : List ByteArray)).bind fun y283 => ((missivelaw20_inner.f k x3).bind fun t286 => (if y283.length + t286.length < 8796093022208 then (some (y283 ++ t286)) else (none)))) else (none)) else (none))))
def missivelaw20_told.f (k : Nat) (l0 : List (S45)) : Option (List ByteArray) := missivelaw20_told.l0 k l0 ([] : List ByteArray) ([] : List ByteArray) 0
theorem missivelaw20_told.mono_l : ∀ k, (∀ y0 y1 y2 y3, LeO (missivelaw20_told.l0 k y0 y1 y2 y3) (missivelaw20_told.l0 (k + 1) y0 y1 y2 y3))
  | 0 => fun _ _ _ _ r h => by simp [missivelaw20_told.l0] at h
  | k + 1 => by
    have ih0 := missivelaw20_told.mono_l k
    · intro y0 y1 y2 y3
      unfold missivelaw20_told.l0
      repeat' first
      | (with_reducible exact ih0 _ _ _ _)
      | (with_reducible exact merkle_Root.mono _ _)
      | (with_reducible exact missivelaw20_inner.mono _ _)
      | (with_reducible exact LeO.refl _)
      | (with_reducible exact LeO.none _)
      | (with_reducible refine LeO.ite ?_ ?_)
      | (with_reducible refine LeO.bind ?_ (fun _ => ?_))
      | exact ih0 _ _ _ _
      | exact merkle_Root.mono _ _
      | exact missivelaw20_inner.mono _ _
      | exact LeO.none _
      | refine LeO.ite ?_ ?_
      | refine LeO.bind ?_ (fun _ => ?_)
theorem missivelaw20_told.mono : ∀ a0 k, LeO (missivelaw20_told.f k a0) (missivelaw20_told.f (k + 1) a0) := by
  intro a0 k
  have ih0 := missivelaw20_told.mono_l k
  unfold missivelaw20_told.f
  repeat' first
      | (with_reducible exact ih0 _ _ _ _)
      | (with_reducible exact merkle_Root.mono _ _)
      | (with_reducible exact missivelaw20_inner.mono _ _)
      | (with_reducible exact LeO.refl _)
      | (with_reducible exact LeO.none _)
      | (with_reducible refine LeO.ite ?_ ?_)
      | (with_reducible refine LeO.bind ?_ (fun _ => ?_))
      | exact ih0 _ _ _ _
      | exact merkle_Root.mono _ _
      | exact missivelaw20_inner.mono _ _
      | exact LeO.none _
      | refine LeO.ite ?_ ?_
      | refine LeO.bind ?_ (fun _ => ?_)
def missivelaw20_told.T8 : Bool × List (List Nat × List Nat) := (true, [([], []), ([], []), ([], []), ([1, 2], [1, 2]), ([3], [3]), ([4], [4]), ([5], [5]), ([], []), ([], []), ([7, 8], [7, 8]), ([9], [9]), ([10], [10]), ([6, 11], [6, 11]), ([12], [12]), ([0, 13], [0, 13]), ([14, 14, 0, 1, 2, 3, 4, 5, 6, 7, 8, 9, 10, 11, 12, 13, 14], [0, 14])])
def missivelaw20_told.B8 : List Nat := [0, 0, 0, 6, 14, 30, 62, 0, 0, 384, 896, 1920, 4094, 8190, 16383, 32767]
theorem missivelaw20_told.tab8 : rtab .any (opsOf Tryd.f66 8) = missivelaw20_told.T8 := by kernel_rfl
theorem missivelaw20_told.bits8 : waitsOk missivelaw20_told.T8.2 missivelaw20_told.B8 = true := by kernel_rfl
set_option maxHeartbeats 8000000 in
set_option maxRecDepth 100000 in
theorem missivelaw20_told.calls (k : Nat) (A0 : Option Addr) (c0 : Nat) (l0 : List (S45)) (r : List ByteArray) (w : World) (hG : GW w) (hr0 : Kd.C k45 w A0 l0.length l0) (hc0 : l0.length ≤ c0) (h : missivelaw20_told.f k l0 = some r) :
    Calls Tryd.prog 66 #[.slice A0 l0.length c0] w fun e w' => ∃ v0_ : Value, e = .returned (v0_) ∧ Kd.R Kd.string 9 w' w.heap.size (fun _ => True) v0_ r ∧ Below w.heap.size w w' := by
  (have HG_ := Aside0.mk hG); clear hG; (have hu45 := Tryd.underlying45); (have HR0 := Aside0.mk hr0); (have HC0 := Aside0.mk hc0); clear hr0 hc0; (have HB := Aside0.mk (Below.refl w.heap.size w)); (have H : (missivelaw20_told.l0 k l0 ([] : List ByteArray) ([] : List ByteArray) 0) = some r := h); clear h; (have H' := Aside0.mk H); clear H; (go_enter Tryd.func66, Tryd.ntmps66); go_wp2; (go_loopg [3, 4, 5] k (fun kq v3 v4 v5 w' => ∃ (x3_1 : List ByteArray) (x4_1 : List ByteArray) (x5_1 : Int), v5 = .int .i64 x5_1 ∧ Aside0 (missivelaw20_told.l0 kq l0 x3_1 x4_1 x5_1 = some r) ∧ Aside0 (kq ≤ k) ∧ Aside0 (Kd.R Kd.string 9 w' w.heap.size (fun k_ => some k_ ≠ (v4 : Value).ownBlock) v3 x3_1) ∧ Aside0 (Kd.R Kd.string 9 w' w.heap.size (fun k_ => some k_ ≠ (v3 : Value).ownBlock) v4 x4_1) ∧ Aside0 (Below w.heap.size w w')))
  case atStart => exact ⟨(([] : List ByteArray)), (([] : List ByteArray)), (0), (by first | rfl | (simp; done) | (simp [*]; done)), H', ⟨Nat.le_refl _⟩, ⟨by first | exact Kd.R_nil _ _ _ _ _ | exact Kd.N_nil _ _ _ _ _ | exact Kd.V_nil _ _ _ _ _ | exact Kd.Q_nil _ _ _ _ _ | exact Kd.S_nil _ _ _ _ _⟩, ⟨by first | exact Kd.R_nil _ _ _ _ _ | exact Kd.N_nil _ _ _ _ _ | exact Kd.V_nil _ _ _ _ _ | exact Kd.Q_nil _ _ _ _ _ | exact Kd.S_nil _ _ _ _ _⟩, ⟨by repeat (first | (with_reducible first | exact HB.out | apply below_alloc | apply pw_below_drewN | apply below_drew1) | exact HB.out)⟩⟩
  case round =>
    (clear H')
    obtain ⟨x3_1, x4_1, x5_1, rfl, HA, HK1, HO_3, HO_4, HB⟩ := hrel
    cases gk with
    | zero => exact absurd HA.out (by simp [missivelaw20_told.l0])
    | succ k1 =>
      (have H := HA.out); clear HA; (simp only [missivelaw20_told.l0] at H)
      by_cases c2 : x5_1 < (l0.length : Int)
      · rw [if_pos c2] at H
        (have c2b0 : decide (x5_1 < (l0.length : Int)) = true := decide_eq_true c2); clear c2
        by_cases c3 : 0 ≤ x5_1
        · rw [if_pos c3] at H
          (have c3b0 : decide (0 ≤ x5_1) = true := decide_eq_true c3); clear c3; (replace H := Option.bind_eq_some_iff.mp H)
          obtain ⟨t271, A40, H⟩ := H
          (replace H : (if x3_1.length < 8796093022208 then ((some (x3_1 ++ [t271] : List ByteArray)).bind fun y272 => (if ((rd_T45 l0 x5_1).f0 = true) then (missivelaw20_told.l0 k1 l0 y272 x4_1 (wrap64 (x5_1 + 1))) else (if 1 + ((rd_T45 l0 x5_1).f1).size ≤ 9223372036854775807 then (if ((⟨#[0]⟩ : ByteArray) ++ ((rd_T45 l0 x5_1).f1)).size + ((rd_T45 l0 x5_1).f2).size ≤ 9223372036854775807 then (if x4_1.length < 8796093022208 then (missivelaw20_told.l0 k1 l0 y272 (x4_1 ++ [((⟨#[0]⟩ : ByteArray) ++ ((rd_T45 l0 x5_1).f1)) ++ ((rd_T45 l0 x5_1).f2)]) (wrap64 (x5_1 + 1))) else (none)) else (none)) else (none)))) else (none)) = some r := H); (have A4 := Aside0.mk A40); clear A40
          by_cases c5 : x3_1.length < 8796093022208
          · rw [if_pos c5] at H
            (have LMc5 := Aside0.mk c5); clear c5
            obtain ⟨y272, hy272⟩ : ∃ y_ : List ByteArray, y_ = (x3_1 ++ [t271]) := ⟨_, rfl⟩
            (replace H : (if ((rd_T45 l0 x5_1).f0 = true) then (missivelaw20_told.l0 k1 l0 y272 x4_1 (wrap64 (x5_1 + 1))) else (if 1 + ((rd_T45 l0 x5_1).f1).size ≤ 9223372036854775807 then (if ((⟨#[0]⟩ : ByteArray) ++ ((rd_T45 l0 x5_1).f1)).size + ((rd_T45 l0 x5_1).f2).size ≤ 9223372036854775807 then (if x4_1.length < 8796093022208 then (missivelaw20_told.l0 k1 l0 y272 (x4_1 ++ [((⟨#[0]⟩ : ByteArray) ++ ((rd_T45 l0 x5_1).f1)) ++ ((rd_T45 l0 x5_1).f2)]) (wrap64 (x5_1 + 1))) else (none)) else (none)) else (none))) = some r := by first | (rw [hy272]; with_reducible exact H) | (have H2_ := (Option.bind_some _ _).symm.trans H; rw [hy272]; with_reducible exact H2_) | (have H2_ := (Option.bind_some _ _).symm.trans H; with_reducible exact H2_) | with_reducible exact H | (rw [hy272]; exact H) | exact H); (have Ny272 := Aside0.mk hy272); clear hy272
            obtain ⟨bq6, hbq6⟩ : ∃ b_ : Bool, b_ = ((rd_T45 l0 x5_1).f0) := ⟨_, rfl⟩
            (replace H : (if (bq6 = true) then (missivelaw20_told.l0 k1 l0 y272 x4_1 (wrap64 (x5_1 + 1))) else (if 1 + ((rd_T45 l0 x5_1).f1).size ≤ 9223372036854775807 then (if ((⟨#[0]⟩ : ByteArray) ++ ((rd_T45 l0 x5_1).f1)).size + ((rd_T45 l0 x5_1).f2).size ≤ 9223372036854775807 then (if x4_1.length < 8796093022208 then (missivelaw20_told.l0 k1 l0 y272 (x4_1 ++ [((⟨#[0]⟩ : ByteArray) ++ ((rd_T45 l0 x5_1).f1)) ++ ((rd_T45 l0 x5_1).f2)]) (wrap64 (x5_1 + 1))) else (none)) else (none)) else (none))) = some r := by rw [← hbq6] at H; exact H); (have Nbq6 := Aside0.mk hbq6); clear hbq6
            by_cases c7 : (bq6 = true)
            · subst c7
              (have H1 : (missivelaw20_told.l0 k1 l0 y272 x4_1 (wrap64 (x5_1 + 1))) = some r := by rw [if_pos rfl] at H; exact H); clear H; (have H := H1); clear H1; (have H' := Aside0.mk H); clear H; (have p270 : 0 ≤ (x5_1 : Int) := of_decide_eq_true (by first | (with_reducible assumption) | assumption)); (have q270 : x5_1 < (l0.length : Int) := of_decide_eq_true (by first | (with_reducible assumption) | assumption))
              obtain ⟨ad270, e270, hx270_0, hx270_1, hx270_2, hx270_3⟩ := at_T45 HR0.out x5_1 p270 q270
              (try rw [← Nbq6.out] at hx270_0); (try rw [← Nbq6.out] at hw270_0)
              cases e270
              (replace hx270_0 := (HB.out.cell (World.block_lt_of_cell? w _ hx270_0)).trans hx270_0); (replace hx270_1 := (HB.out.cell (World.block_lt_of_cell? w _ hx270_1)).trans hx270_1); (replace hx270_2 := (HB.out.cell (World.block_lt_of_cell? w _ hx270_2)).trans hx270_2); (replace hx270_3 := (HB.out.cell (World.block_lt_of_cell? w _ hx270_3)).trans hx270_3); (replace p270 := eq_true p270); (replace q270 := eq_true q270); (go_wp2_with (first | ((with_reducible refine gate_callee (f := 67) rfl ?_); refine goesL_ (some 17) rfl rfl Tryd.func67 (by kernel_rfl) rfl #[.agg #[.bool true, .string ((rd_T45 l0 x5_1).f1), .string ((rd_T45 l0 x5_1).f2), .string ((rd_T45 l0 x5_1).f3)]] rfl (by (try simp only [List.map_toArray, List.map_cons, List.map_nil]); first | done | rfl | (simp only [List.length_drop, List.length_take]; rfl)) ?_; (with_reducible refine (missivelaw20_leaf.calls true ((rd_T45 l0 x5_1).f1) ((rd_T45 l0 x5_1).f2) ((rd_T45 l0 x5_1).f3) t271 _ (by first | ((repeat (first | exact HG_.out | apply GW.drewN | apply GW.drew | apply GW.alloc)); done) | exact GW.below HG_.out sqWlj8_0) (by have a_ := A4.out; (try simp only [← Nbq6.out] at a_); exact a_)).mono ?_); rintro e w8 ⟨rfl, hb⟩; refine ⟨_, rfl, ?_⟩; have n0_ := Aside0.mk (Kd.R_below sqWlj8_1 hb); have n1_ := Aside0.mk (Kd.R_below sqWlj8_2 hb); have n2_ := Aside0.mk (below_step sqWlj8_0 hb); clear HO_3; clear HO_4; clear HB; have HO_3 := n0_; have HO_4 := n1_; have HB := n2_; clear n0_ n1_ n2_; (try clear hb); (try clear hb2); (try clear hk); (try clear hi)) | ((with_reducible refine gate_builtin (b := .append) (xs := #[.tmp 12, .tmp 18]) rfl ?_); at_builtin; refine Kd.R_append Kd.string (w0 := w) w.heap.size rfl (.tmp 12) (.tmp 18) 22 9 (.string ⟨#[]⟩) 16 rfl Tryd.underlying22 info9 rfl (by decide) (by omega) u3 x3_1 t271 [.string t271] (fun k_ => some k_ ≠ (u4 : Value).ownBlock) (fun _ => False) rfl rfl ?aP (fun _ hk => hk.elim) ?aF ?aO ?aB ?aS ?aL ?_; (case aP => exact rfl); (case aB => exact sqWlj8_0); (case aF => exact (fun k_ hk => Kd.fresh' (Kd.R_lt sqWlj8_2) k_ hk)); (case aO => exact sqWlj8_1); (case aS => exact (below_size sqWlj8_0)); (case aL => have := LMc5.out; omega); intro v273 w9 ho hb hg hat; rw [← Ny272.out] at ho; have n0_ := Aside0.mk (Kd.R_after (ok := (fun _ => True)) (by (with_reducible repeat (first | apply Kd.R_alloc | apply Kd.R_drewN | apply Kd.R_drew)); exact Kd.R_mono HO_4.out (fun _ hk => ⟨trivial, hk⟩)) hg hat); have n1_ := Aside0.mk (hb); have n2_ := Aside0.mk (ho); clear HO_4; clear HB; clear HO_3; have HO_4 := n0_; have HB := n1_; have HO274 := n2_; clear n0_ n1_ n2_; clear ho hb hg hat; have p275 : 0 ≤ (x5_1 : Int) := of_decide_eq_true (by first | (with_reducible assumption) | assumption); have q275 : x5_1 < (l0.length : Int) := of_decide_eq_true (by first | (with_reducible assumption) | assumption); obtain ⟨ad275, e275, hx275_0, hx275_1, hx275_2, hx275_3⟩ := at_T45 HR0.out x5_1 p275 q275; (try rw [← Nbq6.out] at hx275_0); obtain rfl : ad270 = ad275 := (by injection e275); replace hx275_0 := (HB.out.cell (World.block_lt_of_cell? w _ hx275_0)).trans hx275_0; replace hx275_1 := (HB.out.cell (World.block_lt_of_cell? w _ hx275_1)).trans hx275_1; replace hx275_2 := (HB.out.cell (World.block_lt_of_cell? w _ hx275_2)).trans hx275_2; replace hx275_3 := (HB.out.cell (World.block_lt_of_cell? w _ hx275_3)).trans hx275_3; replace p275 := eq_true p275; replace q275 := eq_true q275))); (go_roundg k1)
              case measure => have := HK1.out; omega
              case rel => (try simp only [← Nbq6.out]); exact ⟨(y272), (x4_1), (wrap64 (x5_1 + 1)), (by first | rfl | (simp; done) | (simp [*]; done)), H', ⟨by have := HK1.out; omega⟩, ⟨by (with_reducible repeat (first | apply Kd.R_alloc | apply Kd.R_drewN | apply Kd.R_drew)); exact HO274.out⟩, ⟨by (with_reducible repeat (first | apply Kd.R_alloc | apply Kd.R_drewN | apply Kd.R_drew)); exact Kd.R_mono HO_4.out (fun _ hk => hk.2)⟩, ⟨by repeat (first | (with_reducible first | exact HB.out | apply below_alloc | apply pw_below_drewN | apply below_drew1) | exact HB.out)⟩⟩
            · replace c7 := Bool.eq_false_iff.mpr c7
              (subst c7); (have H1 : (if 1 + ((rd_T45 l0 x5_1).f1).size ≤ 9223372036854775807 then (if ((⟨#[0]⟩ : ByteArray) ++ ((rd_T45 l0 x5_1).f1)).size + ((rd_T45 l0 x5_1).f2).size ≤ 9223372036854775807 then (if x4_1.length < 8796093022208 then (missivelaw20_told.l0 k1 l0 y272 (x4_1 ++ [((⟨#[0]⟩ : ByteArray) ++ ((rd_T45 l0 x5_1).f1)) ++ ((rd_T45 l0 x5_1).f2)]) (wrap64 (x5_1 + 1))) else (none)) else (none)) else (none)) = some r := by rw [if_neg (show ¬ (false = true) by decide)] at H; exact H); clear H; (have H := H1); clear H1
              by_cases c10 : 1 + ((rd_T45 l0 x5_1).f1).size ≤ 9223372036854775807
              · rw [if_pos c10] at H
                (have c10b0 := eq_true c10); (have c10b1 : decide (1 + ((rd_T45 l0 x5_1).f1).size ≤ 9223372036854775807) = true := decide_eq_true c10); (try have c10b2 : (9223372036854775807 < 1 + ((rd_T45 l0 x5_1).f1).size) = False := eq_false (Nat.not_lt.2 c10))
                by_cases c11 : ((⟨#[0]⟩ : ByteArray) ++ ((rd_T45 l0 x5_1).f1)).size + ((rd_T45 l0 x5_1).f2).size ≤ 9223372036854775807
                · rw [if_pos c11] at H
                  (have c11b0 := eq_true c11); (have c11b1 : decide (((⟨#[0]⟩ : ByteArray) ++ ((rd_T45 l0 x5_1).f1)).size + ((rd_T45 l0 x5_1).f2).size ≤ 9223372036854775807) = true := decide_eq_true c11); (try have c11b2 : (9223372036854775807 < ((⟨#[0]⟩ : ByteArray) ++ ((rd_T45 l0 x5_1).f1)).size + ((rd_T45 l0 x5_1).f2).size) = False := eq_false (Nat.not_lt.2 c11)); (try (have c11n := c11b2; simp only [ByteArray.size_append, size_mk_, List.size_toArray, List.length_cons, List.length_nil, Nat.zero_add, Nat.reduceAdd] at c11n))
                  by_cases c12 : x4_1.length < 8796093022208
                  · rw [if_pos c12] at H
                    (have LMc12 := Aside0.mk c12); clear c12
                    obtain ⟨y278, hy278⟩ : ∃ y_ : List ByteArray, y_ = (x4_1 ++ [((⟨#[0]⟩ : ByteArray) ++ ((rd_T45 l0 x5_1).f1)) ++ ((rd_T45 l0 x5_1).f2)]) := ⟨_, rfl⟩
                    (replace H : (missivelaw20_told.l0 k1 l0 y272 y278 (wrap64 (x5_1 + 1))) = some r := by first | (rw [hy278]; with_reducible exact H) | (have H2_ := (Option.bind_some _ _).symm.trans H; rw [hy278]; with_reducible exact H2_) | (have H2_ := (Option.bind_some _ _).symm.trans H; with_reducible exact H2_) | with_reducible exact H | (rw [hy278]; exact H) | exact H); (have Ny278 := Aside0.mk hy278); clear hy278; (have H' := Aside0.mk H); clear H; (have p270 : 0 ≤ (x5_1 : Int) := of_decide_eq_true (by first | (with_reducible assumption) | assumption)); (have q270 : x5_1 < (l0.length : Int) := of_decide_eq_true (by first | (with_reducible assumption) | assumption))
                    obtain ⟨ad270, e270, hx270_0, hx270_1, hx270_2, hx270_3⟩ := at_T45 HR0.out x5_1 p270 q270
                    (try rw [← Nbq6.out] at hx270_0); (try rw [← Nbq6.out] at hw270_0)
                    cases e270
                    (replace hx270_0 := (HB.out.cell (World.block_lt_of_cell? w _ hx270_0)).trans hx270_0); (replace hx270_1 := (HB.out.cell (World.block_lt_of_cell? w _ hx270_1)).trans hx270_1); (replace hx270_2 := (HB.out.cell (World.block_lt_of_cell? w _ hx270_2)).trans hx270_2); (replace hx270_3 := (HB.out.cell (World.block_lt_of_cell? w _ hx270_3)).trans hx270_3); (replace p270 := eq_true p270); (replace q270 := eq_true q270); (try go_wp2_with (first | ((with_reducible refine gate_callee (f := 67) rfl ?_); refine goesL_ (some 17) rfl rfl Tryd.func67 (by kernel_rfl) rfl #[.agg #[.bool false, .string ((rd_T45 l0 x5_1).f1), .string ((rd_T45 l0 x5_1).f2), .string ((rd_T45 l0 x5_1).f3)]] rfl (by (try simp only [List.map_toArray, List.map_cons, List.map_nil]); first | done | rfl | (simp only [List.length_drop, List.length_take]; rfl)) ?_; (with_reducible refine (missivelaw20_leaf.calls false ((rd_T45 l0 x5_1).f1) ((rd_T45 l0 x5_1).f2) ((rd_T45 l0 x5_1).f3) t271 _ (by first | ((repeat (first | exact HG_.out | apply GW.drewN | apply GW.drew | apply GW.alloc)); done) | exact GW.below HG_.out sqWlj8_0) (by have a_ := A4.out; (try simp only [← Nbq6.out] at a_); exact a_)).mono ?_); rintro e w13 ⟨rfl, hb⟩; refine ⟨_, rfl, ?_⟩; have n0_ := Aside0.mk (Kd.R_below sqWlj8_1 hb); have n1_ := Aside0.mk (Kd.R_below sqWlj8_2 hb); have n2_ := Aside0.mk (below_step sqWlj8_0 hb); clear HO_3; clear HO_4; clear HB; have HO_3 := n0_; have HO_4 := n1_; have HB := n2_; clear n0_ n1_ n2_; (try clear hb); (try clear hb2); (try clear hk); (try clear hi)) | ((with_reducible refine gate_builtin (b := .append) (xs := #[.tmp 12, .tmp 18]) rfl ?_); at_builtin; refine Kd.R_append Kd.string (w0 := w) w.heap.size rfl (.tmp 12) (.tmp 18) 22 9 (.string ⟨#[]⟩) 16 rfl Tryd.underlying22 info9 rfl (by decide) (by omega) u3 x3_1 t271 [.string t271] (fun k_ => some k_ ≠ (u4 : Value).ownBlock) (fun _ => False) rfl rfl ?aP (fun _ hk => hk.elim) ?aF ?aO ?aB ?aS ?aL ?_; (case aP => exact rfl); (case aB => exact sqWlj8_0); (case aF => exact (fun k_ hk => Kd.fresh' (Kd.R_lt sqWlj8_2) k_ hk)); (case aO => exact sqWlj8_1); (case aS => exact (below_size sqWlj8_0)); (case aL => have := LMc5.out; omega); intro v273 w14 ho hb hg hat; rw [← Ny272.out] at ho; have n0_ := Aside0.mk (Kd.R_after (ok := (fun _ => True)) (by (with_reducible repeat (first | apply Kd.R_alloc | apply Kd.R_drewN | apply Kd.R_drew)); exact Kd.R_mono HO_4.out (fun _ hk => ⟨trivial, hk⟩)) hg hat); have n1_ := Aside0.mk (hb); have n2_ := Aside0.mk (ho); clear HO_4; clear HB; clear HO_3; have HO_4 := n0_; have HB := n1_; have HO274 := n2_; clear n0_ n1_ n2_; clear ho hb hg hat; have p275 : 0 ≤ (x5_1 : Int) := of_decide_eq_true (by first | (with_reducible assumption) | assumption); have q275 : x5_1 < (l0.length : Int) := of_decide_eq_true (by first | (with_reducible assumption) | assumption); obtain ⟨ad275, e275, hx275_0, hx275_1, hx275_2, hx275_3⟩ := at_T45 HR0.out x5_1 p275 q275; (try rw [← Nbq6.out] at hx275_0); obtain rfl : ad270 = ad275 := (by injection e275); replace hx275_0 := (HB.out.cell (World.block_lt_of_cell? w _ hx275_0)).trans hx275_0; replace hx275_1 := (HB.out.cell (World.block_lt_of_cell? w _ hx275_1)).trans hx275_1; replace hx275_2 := (HB.out.cell (World.block_lt_of_cell? w _ hx275_2)).trans hx275_2; replace hx275_3 := (HB.out.cell (World.block_lt_of_cell? w _ hx275_3)).trans hx275_3; replace p275 := eq_true p275; replace q275 := eq_true q275))); (have n0_ := Aside0.mk (Kd.R_drew HO_4.out)); (have n1_ := Aside0.mk (Kd.R_drew HO274.out)); (have n2_ := Aside0.mk (below_drew1 HB.out)); clear HO_4; clear HO274; clear HB; (have HO_4 := n0_); (have HO274 := n1_); (have HB := n2_); clear n0_ n1_ n2_; (have p276 : 0 ≤ (x5_1 : Int) := of_decide_eq_true (by first | (with_reducible assumption) | assumption)); (have q276 : x5_1 < (l0.length : Int) := of_decide_eq_true (by first | (with_reducible assumption) | assumption))
                    obtain ⟨ad276, e276, hx276_0, hx276_1, hx276_2, hx276_3⟩ := at_T45 HR0.out x5_1 p276 q276
                    (have hw276_3 := hx276_3); (have hw276_2 := hx276_2); (have hw276_1 := hx276_1); (have hw276_0 := hx276_0); (try rw [← Nbq6.out] at hx276_0); (try rw [← Nbq6.out] at hw276_0)
                    obtain rfl : ad270 = ad276 := (by injection e276)
                    (replace hx276_0 := (HB.out.cell (World.block_lt_of_cell? w _ hx276_0)).trans hx276_0); (replace hx276_1 := (HB.out.cell (World.block_lt_of_cell? w _ hx276_1)).trans hx276_1); (replace hx276_2 := (HB.out.cell (World.block_lt_of_cell? w _ hx276_2)).trans hx276_2); (replace hx276_3 := (HB.out.cell (World.block_lt_of_cell? w _ hx276_3)).trans hx276_3); (replace p276 := eq_true p276); (replace q276 := eq_true q276); (have p277 : 0 ≤ (x5_1 : Int) := of_decide_eq_true (by first | (with_reducible assumption) | assumption)); (have q277 : x5_1 < (l0.length : Int) := of_decide_eq_true (by first | (with_reducible assumption) | assumption))
                    obtain ⟨ad277, e277, hx277_0, hx277_1, hx277_2, hx277_3⟩ := at_T45 HR0.out x5_1 p277 q277
                    (have hw277_3 := hx277_3); (have hw277_2 := hx277_2); (have hw277_1 := hx277_1); (have hw277_0 := hx277_0); (try rw [← Nbq6.out] at hx277_0); (try rw [← Nbq6.out] at hw277_0)
                    obtain rfl : ad270 = ad277 := (by injection e277)
                    (replace hx277_0 := (HB.out.cell (World.block_lt_of_cell? w _ hx277_0)).trans hx277_0); (replace hx277_1 := (HB.out.cell (World.block_lt_of_cell? w _ hx277_1)).trans hx277_1); (replace hx277_2 := (HB.out.cell (World.block_lt_of_cell? w _ hx277_2)).trans hx277_2); (replace hx277_3 := (HB.out.cell (World.block_lt_of_cell? w _ hx277_3)).trans hx277_3); (replace p277 := eq_true p277); (replace q277 := eq_true q277); (refine start_ (n := 16) (S := fun w' => w'.cell? (ad270.add ((x5_1).toNat * 4)) = some (.bool (false)) ∧ w'.cell? ⟨(ad270.add ((x5_1).toNat * 4)).block, (ad270.add ((x5_1).toNat * 4)).off + 1, none⟩ = some (.string ((rd_T45 l0 x5_1).f1)) ∧ w'.cell? ⟨(ad270.add ((x5_1).toNat * 4)).block, (ad270.add ((x5_1).toNat * 4)).off + 2, none⟩ = some (.string ((rd_T45 l0 x5_1).f2)) ∧ w'.cell? ⟨(ad270.add ((x5_1).toNat * 4)).block, (ad270.add ((x5_1).toNat * 4)).off + 3, none⟩ = some (.string ((rd_T45 l0 x5_1).f3)) ∧ w'.cell? (ad270.add ((x5_1).toNat * 4)) = some (.bool (false)) ∧ w'.cell? ⟨(ad270.add ((x5_1).toNat * 4)).block, (ad270.add ((x5_1).toNat * 4)).off + 1, none⟩ = some (.string ((rd_T45 l0 x5_1).f1)) ∧ w'.cell? ⟨(ad270.add ((x5_1).toNat * 4)).block, (ad270.add ((x5_1).toNat * 4)).off + 2, none⟩ = some (.string ((rd_T45 l0 x5_1).f2)) ∧ w'.cell? ⟨(ad270.add ((x5_1).toNat * 4)).block, (ad270.add ((x5_1).toNat * 4)).off + 3, none⟩ = some (.string ((rd_T45 l0 x5_1).f3))) (ds := []) blj8_16_0 (by kernel_rfl) rfl rfl ⟨((HB.out.cell (World.block_lt_of_cell? w _ hw276_0)).trans hw276_0), ((HB.out.cell (World.block_lt_of_cell? w _ hw276_1)).trans hw276_1), ((HB.out.cell (World.block_lt_of_cell? w _ hw276_2)).trans hw276_2), ((HB.out.cell (World.block_lt_of_cell? w _ hw276_3)).trans hw276_3), ((HB.out.cell (World.block_lt_of_cell? w _ hw277_0)).trans hw277_0), ((HB.out.cell (World.block_lt_of_cell? w _ hw277_1)).trans hw277_1), ((HB.out.cell (World.block_lt_of_cell? w _ hw277_2)).trans hw277_2), ((HB.out.cell (World.block_lt_of_cell? w _ hw277_3)).trans hw277_3)⟩ (fun hHeld => ?_); refine with_tabW missivelaw20_told.tab8 missivelaw20_told.bits8 (fun HT_ HW_ => ?_))
                    generalize w14.drew = w15 at HO_4 HO274 HB hx276_0 hx276_1 hx276_2 hx276_3 hx277_0 hx277_1 hx277_2 hx277_3 hHeld ⊢
                    (refine pure_ (i := 0) (N := some 26) (v := ?_) (a' := ?_) blj8_16_1 rfl rfl (any_of HT_.out (by kernel_rfl)) (fun _ _ _ h => h) (Or.inl ⟨by rfl, ?_⟩) ?_ ?_); rotate_left
                    · intro w'
                      go_simp; with_reducible rfl
                    rotate_left
                    · simp only [Act.put, sqAlj8_, sqBlj8_, sqClj8_, i64_w, i32_w]
                      rfl
                    (refine pure_ (i := 1) (N := some 27) (v := ?_) (a' := ?_) blj8_16_2 rfl rfl (any_of HT_.out (by kernel_rfl)) (fun _ _ _ h => h) (Or.inl ⟨by rfl, ?_⟩) ?_ ?_); rotate_left
                    · intro w'
                      go_simp; with_reducible rfl
                    rotate_left
                    · simp only [Act.put, sqAlj8_, sqBlj8_, sqClj8_, i64_w, i32_w]
                      rfl
                    (refine pure_ (i := 2) (N := some 28) (v := ?_) (a' := ?_) blj8_16_3 rfl rfl (any_of HT_.out (by kernel_rfl)) (fun _ _ _ h => h) (Or.inl ⟨by rfl, ?_⟩) ?_ ?_); rotate_left
                    · intro w'
                      go_simp; with_reducible rfl
                    rotate_left
                    · simp only [Act.put, sqAlj8_, sqBlj8_, sqClj8_, i64_w, i32_w]
                      rfl
                    (refine pure_ (i := 3) (N := some 29) (v := ?_) (a' := ?_) blj8_16_4 rfl rfl (any_of HT_.out (by kernel_rfl)) (fun _ _ _ h => h) (Or.inl ⟨by rfl, ?_⟩) ?_ ?_); rotate_left
                    · intro w'
                      go_simp; with_reducible rfl
                    rotate_left
                    · simp only [Act.put, sqAlj8_, sqBlj8_, sqClj8_, i64_w, i32_w]
                      rfl
                    (refine pure_ (i := 4) (N := some 30) (v := ?_) (a' := ?_) blj8_16_5 rfl rfl (any_of HT_.out (by kernel_rfl)) (fun _ _ _ h => h) (Or.inl ⟨by rfl, ?_⟩) ?_ ?_); rotate_left
                    · intro w'
                      go_simp; with_reducible rfl
                    rotate_left
                    · simp only [Act.put, sqAlj8_, sqBlj8_, sqClj8_, i64_w, i32_w]
                      rfl
                    (refine pure_ (i := 7) (N := some 33) (v := ?_) (a' := ?_) blj8_16_x9f rfl rfl (any_of HT_.out (by kernel_rfl)) (fun _ _ _ h => h) (Or.inl ⟨by rfl, ?_⟩) ?_ ?_); rotate_left
                    · intro w'
                      go_simp; with_reducible rfl
                    rotate_left
                    · simp only [Act.put, sqAlj8_, sqBlj8_, sqClj8_, i64_w, i32_w]
                      rfl
                    (refine pure_ (i := 8) (N := some 34) (v := ?_) (a' := ?_) blj8_16_x19f rfl rfl (any_of HT_.out (by kernel_rfl)) (fun _ _ _ h => h) (Or.inl ⟨by rfl, ?_⟩) ?_ ?_); rotate_left
                    · intro w'
                      go_simp; with_reducible rfl
                    rotate_left
                    · simp only [Act.put, sqAlj8_, sqBlj8_, sqClj8_, i64_w, i32_w]
                      rfl
                    (refine pure_ (i := 9) (N := some 35) (v := ?_) (a' := ?_) blj8_16_x39f rfl rfl (any_of HT_.out (by kernel_rfl)) (fun _ _ _ h => h) (Or.inl ⟨by rfl, ?_⟩) ?_ ?_); rotate_left
                    · intro w'
                      go_simp; with_reducible rfl
                    rotate_left
                    · simp only [Act.put, sqAlj8_, sqBlj8_, sqClj8_, i64_w, i32_w]
                      rfl
                    (refine pure_ (i := 10) (N := some 36) (v := ?_) (a' := ?_) blj8_16_x79f rfl rfl (any_of HT_.out (by kernel_rfl)) (fun _ _ _ h => h) (Or.inl ⟨by rfl, ?_⟩) ?_ ?_); rotate_left
                    · intro w'
                      go_simp; with_reducible rfl
                    rotate_left
                    · simp only [Act.put, sqAlj8_, sqBlj8_, sqClj8_, i64_w, i32_w]
                      rfl
                    (refine take_ (i := 5) (N := some 31) (v := ?_) (a' := ?_) blj8_16_x7bf rfl rfl (take_ofW HT_.out HW_.out (by kernel_rfl)) (fun _ _ _ h => h) (Or.inl ⟨by rfl, ?_⟩) hHeld ?_ ?_); rotate_left
                    · rintro w' ⟨s0, s1, s2, s3, s4, s5, s6, s7⟩
                      go_simp; with_reducible rfl
                    rotate_left
                    · simp only [Act.put, sqAlj8_, sqBlj8_, sqClj8_, i64_w, i32_w]
                      rfl
                    (refine pure_ (i := 6) (N := some 32) (v := ?_) (a' := ?_) blj8_16_11 rfl rfl (any_of HT_.out (by kernel_rfl)) (fun _ _ _ h => h) (Or.inl ⟨by rfl, ?_⟩) ?_ ?_); rotate_left
                    · intro w'
                      go_simp; with_reducible rfl
                    rotate_left
                    · simp only [Act.put, sqAlj8_, sqBlj8_, sqClj8_, i64_w, i32_w]
                      rfl
                    (refine take_ (i := 11) (N := some 37) (v := ?_) (a' := ?_) blj8_16_12 rfl rfl (take_ofW HT_.out HW_.out (by kernel_rfl)) (fun _ _ _ h => h) (Or.inl ⟨by rfl, ?_⟩) hHeld ?_ ?_); rotate_left
                    · rintro w' ⟨s0, s1, s2, s3, s4, s5, s6, s7⟩
                      go_simp; with_reducible rfl
                    rotate_left
                    · simp only [Act.put, sqAlj8_, sqBlj8_, sqClj8_, i64_w, i32_w]
                      rfl
                    (refine pure_ (i := 12) (N := some 38) (v := ?_) (a' := ?_) blj8_16_13 rfl rfl (any_of HT_.out (by kernel_rfl)) (fun _ _ _ h => h) (Or.inl ⟨by rfl, ?_⟩) ?_ ?_); rotate_left
                    · intro w'
                      go_simp; with_reducible rfl
                    rotate_left
                    · simp only [Act.put, sqAlj8_, sqBlj8_, sqClj8_, i64_w, i32_w]
                      rfl
                    (refine one_ (i := 13) (N := some 39) blj8_16_14 rfl rfl (one_of HT_.out (by kernel_rfl)) (by decide) (fun K hK => ?_)); (refine value_ (w1 := ?_) (v := ?_) (by rfl) rfl ?_ ?_); (rotate_left 2)
                    · go_simp
                      (constructor)
                      · rfl
                      · rfl
                    (refine hK.out _ _ ⟨(World.cell?_alloc_lt _ _ _ (World.block_lt_of_cell? _ _ (((HB.out.cell (World.block_lt_of_cell? w _ hw276_0)).trans hw276_0)))).trans (((HB.out.cell (World.block_lt_of_cell? w _ hw276_0)).trans hw276_0)), (World.cell?_alloc_lt _ _ _ (World.block_lt_of_cell? _ _ (((HB.out.cell (World.block_lt_of_cell? w _ hw276_1)).trans hw276_1)))).trans (((HB.out.cell (World.block_lt_of_cell? w _ hw276_1)).trans hw276_1)), (World.cell?_alloc_lt _ _ _ (World.block_lt_of_cell? _ _ (((HB.out.cell (World.block_lt_of_cell? w _ hw276_2)).trans hw276_2)))).trans (((HB.out.cell (World.block_lt_of_cell? w _ hw276_2)).trans hw276_2)), (World.cell?_alloc_lt _ _ _ (World.block_lt_of_cell? _ _ (((HB.out.cell (World.block_lt_of_cell? w _ hw276_3)).trans hw276_3)))).trans (((HB.out.cell (World.block_lt_of_cell? w _ hw276_3)).trans hw276_3)), (World.cell?_alloc_lt _ _ _ (World.block_lt_of_cell? _ _ (((HB.out.cell (World.block_lt_of_cell? w _ hw277_0)).trans hw277_0)))).trans (((HB.out.cell (World.block_lt_of_cell? w _ hw277_0)).trans hw277_0)), (World.cell?_alloc_lt _ _ _ (World.block_lt_of_cell? _ _ (((HB.out.cell (World.block_lt_of_cell? w _ hw277_1)).trans hw277_1)))).trans (((HB.out.cell (World.block_lt_of_cell? w _ hw277_1)).trans hw277_1)), (World.cell?_alloc_lt _ _ _ (World.block_lt_of_cell? _ _ (((HB.out.cell (World.block_lt_of_cell? w _ hw277_2)).trans hw277_2)))).trans (((HB.out.cell (World.block_lt_of_cell? w _ hw277_2)).trans hw277_2)), (World.cell?_alloc_lt _ _ _ (World.block_lt_of_cell? _ _ (((HB.out.cell (World.block_lt_of_cell? w _ hw277_3)).trans hw277_3)))).trans (((HB.out.cell (World.block_lt_of_cell? w _ hw277_3)).trans hw277_3))⟩ (fun hHeld => ?_)); clear hK K; (refine norm_ (a' := ?_) ?_ ?_); rotate_left
                    · show Act.put _ (some 39) _ = _
                      (simp only [Act.put, sqAlj8_, sqBlj8_, sqClj8_, i64_w, i32_w]); rfl
                    (refine one_ (i := 14) (N := some 40) blj8_16_15 rfl rfl (one_of HT_.out (by kernel_rfl)) (by decide) (fun K hK => ?_)); (refine Kd.R_append_step Kd.string (w0 := w) w.heap.size (by rfl) (.tmp 26) (.tmp 39) 22 9 (.string ⟨#[]⟩) 16 rfl Tryd.underlying22 info9 rfl (by decide) (by omega) u4 x4_1 (((⟨#[0]⟩ : ByteArray) ++ ((rd_T45 l0 x5_1).f1)) ++ ((rd_T45 l0 x5_1).f2)) [.string (((⟨#[0]⟩ : ByteArray) ++ ((rd_T45 l0 x5_1).f1)) ++ ((rd_T45 l0 x5_1).f2))] (fun k_ => some k_ ≠ (v273 : Value).ownBlock) (fun _ => False) rfl rfl ?aP (fun _ hk => hk.elim) ?aF ?aO ?aB ?aS ?aL ?_); (case aP => exact rfl); (case aB => exact sqWlj8_0); (case aF => exact (fun k_ hk => Kd.fresh' (Kd.R_lt sqWlj8_3) k_ hk)); (case aO => exact (by (with_reducible repeat (first | apply Kd.R_alloc | apply Kd.R_drewN | apply Kd.R_drew)); exact Kd.R_mono HO_4.out (fun _ hk => hk.2))); (case aS => exact (below_size sqWlj8_0)); (case aL => have := LMc12.out; omega); (intro v279 w16 ho hb hg hat); (rw [← Ny278.out] at ho); (have n0_ := Aside0.mk (Kd.R_after (ok := (fun _ => True)) (by (with_reducible repeat (first | apply Kd.R_alloc | apply Kd.R_drewN | apply Kd.R_drew)); exact Kd.R_mono HO274.out (fun _ hk => ⟨trivial, hk⟩)) hg hat)); (have n1_ := Aside0.mk (hb)); (have n2_ := Aside0.mk (ho)); clear HO274; clear HB; clear HO_4; (have HO274 := n0_); (have HB := n1_); (have HO280 := n2_); clear n0_ n1_ n2_; clear ho hb hg hat; (refine hK.out _ _ ⟨((HB.out.cell (World.block_lt_of_cell? w _ hw276_0)).trans hw276_0), ((HB.out.cell (World.block_lt_of_cell? w _ hw276_1)).trans hw276_1), ((HB.out.cell (World.block_lt_of_cell? w _ hw276_2)).trans hw276_2), ((HB.out.cell (World.block_lt_of_cell? w _ hw276_3)).trans hw276_3), ((HB.out.cell (World.block_lt_of_cell? w _ hw277_0)).trans hw277_0), ((HB.out.cell (World.block_lt_of_cell? w _ hw277_1)).trans hw277_1), ((HB.out.cell (World.block_lt_of_cell? w _ hw277_2)).trans hw277_2), ((HB.out.cell (World.block_lt_of_cell? w _ hw277_3)).trans hw277_3)⟩ (fun hHeld => ?_)); clear hK K; (refine norm_ (a' := ?_) ?_ ?_); rotate_left
                    · show Act.put _ (some 40) _ = _
                      (simp only [Act.put, sqAlj8_, sqBlj8_, sqClj8_, i64_w, i32_w]); rfl
                    (refine pure_ (i := 15) (N := some 4) (v := ?_) (a' := ?_) blj8_16_16 rfl rfl (any_of HT_.out (by kernel_rfl)) (fun _ _ _ h => h) (Or.inl ⟨by rfl, ?_⟩) ?_ ?_); rotate_left
                    · intro w'
                      go_simp; with_reducible rfl
                    rotate_left
                    · simp only [Act.put, sqAlj8_, sqBlj8_, sqClj8_, i64_w, i32_w]
                      rfl
                    (refine done_ (done_of HT_.out (by kernel_rfl)) ?_); (try go_wp2); (go_roundg k1)
                    case measure => have := HK1.out; omega
                    case rel => (try simp only [← Nbq6.out]); exact ⟨(y272), (y278), (wrap64 (x5_1 + 1)), (by first | rfl | (simp; done) | (simp [*]; done)), H', ⟨by have := HK1.out; omega⟩, ⟨by (with_reducible repeat (first | apply Kd.R_alloc | apply Kd.R_drewN | apply Kd.R_drew)); exact Kd.R_mono HO274.out (fun _ hk => hk.2)⟩, ⟨by (with_reducible repeat (first | apply Kd.R_alloc | apply Kd.R_drewN | apply Kd.R_drew)); exact HO280.out⟩, ⟨by repeat (first | (with_reducible first | exact HB.out | apply below_alloc | apply pw_below_drewN | apply below_drew1) | exact HB.out)⟩⟩
                  · rw [if_neg c12] at H
                    (exact absurd H (by simp))
                · rw [if_neg c11] at H
                  (exact absurd H (by simp))
              · rw [if_neg c10] at H
                (exact absurd H (by simp))
          · rw [if_neg c5] at H
            (exact absurd H (by simp))
        · rw [if_neg c3] at H
          (exact absurd H (by simp))
      · rw [if_neg c2] at H
        (have c2b0 : decide (x5_1 < (l0.length : Int)) = false := decide_eq_false c2); clear c2; (replace H := Option.bind_eq_some_iff.mp H)
        obtain ⟨t281, A170, H⟩ := H
        (replace H : ((merkle_Root.f k1 x3_1).bind fun t282 => (if t281.size + t282.size ≤ 9223372036854775807 then (if x4_1.length < 8796093022208 then ((some (x4_1 ++ [t281 ++ t282] : List ByteArray)).bind fun y283 => ((missivelaw20_inner.f k1 x3_1).bind fun t286 => (if y283.length + t286.length < 8796093022208 then (some (y283 ++ t286)) else (none)))) else (none)) else (none))) = some r := H); (have A17 := Aside0.mk A170); clear A170; (replace H := Option.bind_eq_some_iff.mp H)
        obtain ⟨t282, A180, H⟩ := H
        (replace H : (if t281.size + t282.size ≤ 9223372036854775807 then (if x4_1.length < 8796093022208 then ((some (x4_1 ++ [t281 ++ t282] : List ByteArray)).bind fun y283 => ((missivelaw20_inner.f k1 x3_1).bind fun t286 => (if y283.length + t286.length < 8796093022208 then (some (y283 ++ t286)) else (none)))) else (none)) else (none)) = some r := H); (have A18 := Aside0.mk A180); clear A180
        by_cases c19 : t281.size + t282.size ≤ 9223372036854775807
        · rw [if_pos c19] at H
          (have c19b0 := eq_true c19); (have c19b1 : decide (t281.size + t282.size ≤ 9223372036854775807) = true := decide_eq_true c19); (try have c19b2 : (9223372036854775807 < t281.size + t282.size) = False := eq_false (Nat.not_lt.2 c19))
          by_cases c20 : x4_1.length < 8796093022208
          · rw [if_pos c20] at H
            (have LMc20 := Aside0.mk c20); clear c20
            obtain ⟨y283, hy283⟩ : ∃ y_ : List ByteArray, y_ = (x4_1 ++ [t281 ++ t282]) := ⟨_, rfl⟩
            (replace H : ((missivelaw20_inner.f k1 x3_1).bind fun t286 => (if y283.length + t286.length < 8796093022208 then (some (y283 ++ t286)) else (none))) = some r := by first | (rw [hy283]; with_reducible exact H) | (have H2_ := (Option.bind_some _ _).symm.trans H; rw [hy283]; with_reducible exact H2_) | (have H2_ := (Option.bind_some _ _).symm.trans H; with_reducible exact H2_) | with_reducible exact H | (rw [hy283]; exact H) | exact H); (have Ny283 := Aside0.mk hy283); clear hy283; (replace H := Option.bind_eq_some_iff.mp H)
            obtain ⟨t286, A210, H⟩ := H
            (replace H : (if y283.length + t286.length < 8796093022208 then (some (y283 ++ t286)) else (none)) = some r := H); (have A21 := Aside0.mk A210); clear A210
            by_cases c22 : y283.length + t286.length < 8796093022208
            · rw [if_pos c22] at H
              (have LMc22 := Aside0.mk c22); clear c22
              obtain ⟨y289, hy289⟩ : ∃ y_ : List ByteArray, y_ = (y283 ++ t286) := ⟨_, rfl⟩
              (replace H : (some y289) = some r := by first | (rw [hy289]; with_reducible exact H) | (have H2_ := (Option.bind_some _ _).symm.trans H; rw [hy289]; with_reducible exact H2_) | (have H2_ := (Option.bind_some _ _).symm.trans H; with_reducible exact H2_) | with_reducible exact H | (rw [hy289]; exact H) | exact H); (have Ny289 := Aside0.mk hy289); clear hy289
              obtain rfl := Option.some.inj H
              obtain ⟨Ao23, co23, eo23⟩ := Kd.R_slice HO_3.out
              (subst eo23); (go_wp2_with (first | ((with_reducible refine gate_callee (f := 97) rfl ?_); refine goesL_ (some 44) rfl rfl Tryd.func97 (by kernel_rfl) rfl #[.int .i64 (x3_1.length : Int)] rfl (by (try simp only [List.map_toArray, List.map_cons, List.map_nil]); first | done | rfl | (simp only [List.length_drop, List.length_take]; rfl)) ?_; (with_reducible refine (wire_Num.calls (x3_1.length : Int) t281 _ (by first | ((repeat (first | exact HG_.out | apply GW.drewN | apply GW.drew | apply GW.alloc)); done) | exact GW.below HG_.out sqWlj8_0) A17.out).mono ?_); rintro e w24 ⟨rfl, hb⟩; refine ⟨_, rfl, ?_⟩; have n0_ := Aside0.mk (Kd.R_below sqWlj8_1 hb); have n1_ := Aside0.mk (Kd.R_below sqWlj8_2 hb); have n2_ := Aside0.mk (below_step sqWlj8_0 hb); clear HO_3; clear HO_4; clear HB; have HO_3 := n0_; have HO_4 := n1_; have HB := n2_; clear n0_ n1_ n2_; (try clear hb); (try clear hb2); (try clear hk); (try clear hi)) | ((with_reducible refine gate_callee (f := 55) rfl ?_); refine goesL_ (some 46) rfl rfl Tryd.func55 (by kernel_rfl) rfl #[.slice Ao23 x3_1.length co23] rfl (by (try simp only [List.map_toArray, List.map_cons, List.map_nil]); first | done | rfl | (simp only [List.length_drop, List.length_take]; rfl)) ?_; (with_reducible refine (merkle_Root.calls k1 _ _ x3_1 t282 _ (by first | ((repeat (first | exact HG_.out | apply GW.drewN | apply GW.drew | apply GW.alloc)); done) | exact GW.below HG_.out sqWlj8_0) ?side1 ?side2 A18.out).mono ?_); (case side1 => repeat (first | exact (Kd.R_reads' HO_3.out).2.2 | (with_reducible refine Kd.C_alloc ?_ _) | (with_reducible refine Kd.C_drewN ?_ _) | (with_reducible refine Kd.C_drew ?_))); (case side2 => exact (Kd.R_reads' HO_3.out).2.1); rintro e w25 ⟨rfl, hb⟩; refine ⟨_, rfl, ?_⟩; have n0_ := Aside0.mk (Kd.R_below sqWlj8_1 hb); have n1_ := Aside0.mk (Kd.R_below sqWlj8_2 hb); have n2_ := Aside0.mk (below_step sqWlj8_0 hb); clear HO_3; clear HO_4; clear HB; have HO_3 := n0_; have HO_4 := n1_; have HB := n2_; clear n0_ n1_ n2_; (try clear hb); (try clear hb2); (try clear hk); (try clear hi)) | ((with_reducible refine gate_builtin (b := .append) (xs := #[.tmp 41, .tmp 48]) rfl ?_); at_builtin; refine Kd.R_append Kd.string (w0 := w) w.heap.size rfl (.tmp 41) (.tmp 48) 22 9 (.string ⟨#[]⟩) 16 rfl Tryd.underlying22 info9 rfl (by decide) (by omega) u4 x4_1 (t281 ++ t282) [.string (t281 ++ t282)] (fun k_ => some k_ ≠ (.slice Ao23 x3_1.length co23 : Value).ownBlock) (fun _ => False) rfl rfl ?aP (fun _ hk => hk.elim) ?aF ?aO ?aB ?aS ?aL ?_; (case aP => exact rfl); (case aB => exact sqWlj8_0); (case aF => exact (fun k_ hk => Kd.fresh' (Kd.R_lt sqWlj8_1) k_ hk)); (case aO => exact sqWlj8_2); (case aS => exact (below_size sqWlj8_0)); (case aL => have := LMc20.out; omega); intro v284 w26 ho hb hg hat; rw [← Ny283.out] at ho; have n0_ := Aside0.mk (Kd.R_after (ok := (fun _ => True)) (by (with_reducible repeat (first | apply Kd.R_alloc | apply Kd.R_drewN | apply Kd.R_drew)); exact Kd.R_mono HO_3.out (fun _ hk => ⟨trivial, hk⟩)) hg hat); have n1_ := Aside0.mk (hb); have n2_ := Aside0.mk (ho); clear HO_3; clear HB; clear HO_4; have HO_3 := n0_; have HB := n1_; have HO285 := n2_; clear n0_ n1_ n2_; clear ho hb hg hat) | ((with_reducible refine gate_callee (f := 101) rfl ?_); refine goesL_ (some 52) rfl rfl Tryd.func101 (by kernel_rfl) rfl #[.slice Ao23 x3_1.length co23] rfl (by (try simp only [List.map_toArray, List.map_cons, List.map_nil]); first | done | rfl | (simp only [List.length_drop, List.length_take]; rfl)) ?_; (with_reducible refine (missivelaw20_inner.calls k1 _ _ x3_1 t286 _ (by first | ((repeat (first | exact HG_.out | apply GW.drewN | apply GW.drew | apply GW.alloc)); done) | exact GW.below HG_.out sqWlj8_0) ?side1 ?side2 A21.out).mono ?_); (case side1 => repeat (first | exact (Kd.R_reads' HO_3.out).2.2 | (with_reducible refine Kd.C_alloc ?_ _) | (with_reducible refine Kd.C_drewN ?_ _) | (with_reducible refine Kd.C_drew ?_))); (case side2 => exact (Kd.R_reads' HO_3.out).2.1); rintro e w27 ⟨v287, rfl, ho0, hb⟩; refine ⟨_, rfl, ?_⟩; have n0_ := Aside0.mk (Kd.R_elder' sqWlj8_1 (Kd.R_base ho0) hb); have n1_ := Aside0.mk (Kd.R_elder' sqWlj8_4 (Kd.R_base ho0) hb); have n2_ := Aside0.mk (Kd.R_lower (Kd.R_new' (Kd.R_new' ho0 (Kd.R_lt sqWlj8_1)) (Kd.R_lt sqWlj8_4)) (below_size sqWlj8_0)); have n3_ := Aside0.mk (below_step sqWlj8_0 hb); clear HO_3; clear HO285; clear HB; have HO_3 := n0_; have HO285 := n1_; have HO288 := n2_; have HB := n3_; clear n0_ n1_ n2_ n3_; (try clear hb); (try clear hb2); (try clear hk); (try clear hi); (try clear ho0); obtain ⟨Ao29, co29, eo29⟩ := Kd.R_slice HO288.out; subst eo29) | ((with_reducible refine gate_builtin (b := .append) (xs := #[.tmp 50, .tmp 52]) rfl ?_); at_builtin; refine Kd.R_append_rows Kd.string (w0 := w) w.heap.size rfl (.tmp 50) (.tmp 52) 22 9 (.string ⟨#[]⟩) 16 rfl Tryd.underlying22 info9 rfl (by decide) (by omega) v284 y283 t286 _ _ _ (fun k_ => some k_ ≠ (.slice Ao23 x3_1.length co23 : Value).ownBlock ∧ some k_ ≠ (.slice Ao29 t286.length co29 : Value).ownBlock) (fun _ => False) rfl rfl ?aO ?aR (fun _ _ h => h) (fun _ h => h.elim) ?aF ?aB ?aS ?aL ?_; (case aR => repeat (first | exact (Kd.R_reads' HO288.out).2.2 | (with_reducible refine Kd.C_alloc ?_ _) | (with_reducible refine Kd.C_drewN ?_ _) | (with_reducible refine Kd.C_drew ?_))); (case aB => exact sqWlj8_0); (case aF => exact (fun k_ hk => ⟨Kd.fresh' (Kd.R_lt sqWlj8_1) k_ hk, Kd.fresh' (Kd.R_lt sqWlj8_5) k_ hk⟩)); (case aO => exact sqWlj8_4); (case aS => exact (below_size sqWlj8_0)); (case aL => have := LMc22.out; omega); intro v290 w28 ho hb hg hat; rw [← Ny289.out] at ho; have n0_ := Aside0.mk (Kd.R_after (ok := (fun k_ => some k_ ≠ (.slice Ao29 t286.length co29 : Value).ownBlock)) (by (with_reducible repeat (first | apply Kd.R_alloc | apply Kd.R_drewN | apply Kd.R_drew)); exact Kd.R_mono HO_3.out (fun _ hk => ⟨hk.2, hk.1.2⟩)) hg hat); have n1_ := Aside0.mk (Kd.R_after (ok := (fun k_ => some k_ ≠ (.slice Ao23 x3_1.length co23 : Value).ownBlock)) (by (with_reducible repeat (first | apply Kd.R_alloc | apply Kd.R_drewN | apply Kd.R_drew)); exact Kd.R_mono HO288.out (fun _ hk => ⟨hk.1.2, hk.2⟩)) hg hat); have n2_ := Aside0.mk (hb); have n3_ := Aside0.mk (ho); clear HO_3; clear HO288; clear HB; clear HO285; have HO_3 := n0_; have HO288 := n1_; have HB := n2_; have HO291 := n3_; clear n0_ n1_ n2_ n3_; clear ho hb hg hat))); (go_ret); (exact ⟨_, by first | rfl | (simp [errW_none, errW_some] <;> rfl) | (simp [*, errW_none, errW_some] <;> rfl), by (with_reducible repeat (first | apply Kd.R_alloc | apply Kd.R_drewN | apply Kd.R_drew)); exact Kd.R_mono HO291.out (fun _ hk => trivial), by repeat (first | (with_reducible first | exact HB.out | apply below_alloc | apply pw_below_drewN | apply below_drew1) | exact HB.out)⟩)
            · rw [if_neg c22] at H
              (exact absurd H (by simp))
          · rw [if_neg c20] at H
            (exact absurd H (by simp))
        · rw [if_neg c19] at H
          (exact absurd H (by simp))

/-! ### missivelaw20_clash: function 28 -/
mutual
def missivelaw20_clash.l0 : Nat → List ByteArray → List ByteArray → List ByteArray → Int → Option (Bool)
  | 0, _, _, _, _ => none
  | k + 1, x5, x6, x7, x8 => if x8 < (x6.length : Int) then (if 0 ≤ x8 then ((digest_Sum.f (rdOf ByteArray.empty x6 x8)).bind fun t299 => (if x7.length < 8796093022208 then (missivelaw20_clash.l0 k x5 x6 (x7 ++ [t299]) (wrap64 (x8 + 1))) else (none))) else (none)) else (missivelaw20_clash.l1 k x5 x6 x7 0)
def missivelaw20_clash.l1 : Nat → List ByteArray → List ByteArray → List ByteArray → Int → Option (Bool)
  | 0, _, _, _, _ => none
  | k + 1, x5, x6, x7, x9 => if x9 < (x5.length : Int) then (if 0 ≤ x9 then ((digest_Sum.f (rdOf ByteArray.empty x5 x9)).bind fun t304 => (missivelaw20_clash.l2 k x5 x6 x7 x9 t304 0)) else (none)) else (some false)
def missivelaw20_clash.l2 : Nat → List ByteArray → List ByteArray → List ByteArray → Int → ByteArray → Int → Option (Bool)
  | 0, _, _, _, _, _, _ => none
  | k + 1, x5, x6, x7, x9, x10, x11 => if x11 < (x6.length : Int) then (if 0 ≤ x11 then (if x11 < (x7.length : Int) then (if x10.toList = (rdOf ByteArray.empty x7 x11).toList then (if 0 ≤ x9 then (if x9 < (x5.length : Int) then (if (rdOf ByteArray.empty x5 x9).toList = (rdOf ByteArray.empty x6 x11).toList then (missivelaw20_clash.l2 k x5 x6 x7 x9 x10 (wrap64 (x11 + 1))) else (some true)) else (none)) else (none)) else (missivelaw20_clash.l2 k x5 x6 x7 x9 x10 (wrap64 (x11 + 1)))) else (none)) else (none)) else (missivelaw20_clash.l1 k x5 x6 x7 (wrap64 (x9 + 1)))
end
def missivelaw20_clash.f (k : Nat) (l0 : List (S45)) (l1 : List (S45)) : Option (Bool) := (missivelaw20_told.f k l0).bind fun t292 => ((missivelaw20_told.f k l1).bind fun t295 => (missivelaw20_clash.l0 k t292 t295 ([] : List ByteArray) 0))
theorem missivelaw20_clash.mono_l : ∀ k, (∀ y0 y1 y2 y3, LeO (missivelaw20_clash.l0 k y0 y1 y2 y3) (missivelaw20_clash.l0 (k + 1) y0 y1 y2 y3)) ∧ (∀ y0 y1 y2 y3, LeO (missivelaw20_clash.l1 k y0 y1 y2 y3) (missivelaw20_clash.l1 (k + 1) y0 y1 y2 y3)) ∧ (∀ y0 y1 y2 y3 y4 y5, LeO (missivelaw20_clash.l2 k y0 y1 y2 y3 y4 y5) (missivelaw20_clash.l2 (k + 1) y0 y1 y2 y3 y4 y5))
  | 0 => ⟨fun _ _ _ _ r h => by simp [missivelaw20_clash.l0] at h, fun _ _ _ _ r h => by simp [missivelaw20_clash.l1] at h, fun _ _ _ _ _ _ r h => by simp [missivelaw20_clash.l2] at h⟩
  | k + 1 => by
    obtain ⟨ih0, ih1, ih2⟩ := missivelaw20_clash.mono_l k
    refine ⟨?_, ?_, ?_⟩
    · intro y0 y1 y2 y3
      unfold missivelaw20_clash.l0
      repeat' first
      | (with_reducible exact ih0 _ _ _ _)
      | (with_reducible exact ih1 _ _ _ _)
      | (with_reducible exact ih2 _ _ _ _ _ _)
      | (with_reducible exact missivelaw20_told.mono _ _)
      | (with_reducible exact LeO.refl _)
      | (with_reducible exact LeO.none _)
      | (with_reducible refine LeO.ite ?_ ?_)
      | (with_reducible refine LeO.bind ?_ (fun _ => ?_))
      | exact ih0 _ _ _ _
      | exact ih1 _ _ _ _
      | exact ih2 _ _ _ _ _ _
      | exact missivelaw20_told.mono _ _
      | exact LeO.none _
      | refine LeO.ite ?_ ?_
      | refine LeO.bind ?_ (fun _ => ?_)
    · intro y0 y1 y2 y3
      unfold missivelaw20_clash.l1
      repeat' first
      | (with_reducible exact ih0 _ _ _ _)
      | (with_reducible exact ih1 _ _ _ _)
      | (with_reducible exact ih2 _ _ _ _ _ _)
      | (with_reducible exact missivelaw20_told.mono _ _)
      | (with_reducible exact LeO.refl _)
      | (with_reducible exact LeO.none _)
      | (with_reducible refine LeO.ite ?_ ?_)
      | (with_reducible refine LeO.bind ?_ (fun _ => ?_))
      | exact ih0 _ _ _ _
      | exact ih1 _ _ _ _
      | exact ih2 _ _ _ _ _ _
      | exact missivelaw20_told.mono _ _
      | exact LeO.none _
      | refine LeO.ite ?_ ?_
      | refine LeO.bind ?_ (fun _ => ?_)
    · intro y0 y1 y2 y3 y4 y5
      unfold missivelaw20_clash.l2
      repeat' first
      | (with_reducible exact ih0 _ _ _ _)
      | (with_reducible exact ih1 _ _ _ _)
      | (with_reducible exact ih2 _ _ _ _ _ _)
      | (with_reducible exact missivelaw20_told.mono _ _)
      | (with_reducible exact LeO.refl _)
      | (with_reducible exact LeO.none _)
      | (with_reducible refine LeO.ite ?_ ?_)
      | (with_reducible refine LeO.bind ?_ (fun _ => ?_))
      | exact ih0 _ _ _ _
      | exact ih1 _ _ _ _
      | exact ih2 _ _ _ _ _ _
      | exact missivelaw20_told.mono _ _
      | exact LeO.none _
      | refine LeO.ite ?_ ?_
      | refine LeO.bind ?_ (fun _ => ?_)
theorem missivelaw20_clash.mono : ∀ a0 a1 k, LeO (missivelaw20_clash.f k a0 a1) (missivelaw20_clash.f (k + 1) a0 a1) := by
  intro a0 a1 k
  obtain ⟨ih0, ih1, ih2⟩ := missivelaw20_clash.mono_l k
  unfold missivelaw20_clash.f
  repeat' first
      | (with_reducible exact ih0 _ _ _ _)
      | (with_reducible exact ih1 _ _ _ _)
      | (with_reducible exact ih2 _ _ _ _ _ _)
      | (with_reducible exact missivelaw20_told.mono _ _)
      | (with_reducible exact LeO.refl _)
      | (with_reducible exact LeO.none _)
      | (with_reducible refine LeO.ite ?_ ?_)
      | (with_reducible refine LeO.bind ?_ (fun _ => ?_))
      | exact ih0 _ _ _ _
      | exact ih1 _ _ _ _
      | exact ih2 _ _ _ _ _ _
      | exact missivelaw20_told.mono _ _
      | exact LeO.none _
      | refine LeO.ite ?_ ?_
      | refine LeO.bind ?_ (fun _ => ?_)
set_option maxHeartbeats 8000000 in
set_option maxRecDepth 100000 in
theorem missivelaw20_clash.calls (k : Nat) (A0 : Option Addr) (c0 : Nat) (l0 : List (S45)) (A1 : Option Addr) (c1 : Nat) (l1 : List (S45)) (r : Bool) (w : World) (hG : GW w) (hr0 : Kd.C k45 w A0 l0.length l0) (hc0 : l0.length ≤ c0) (hr1 : Kd.C k45 w A1 l1.length l1) (hc1 : l1.length ≤ c1) (h : missivelaw20_clash.f k l0 l1 = some r) :
    Calls Tryd.prog 28 #[.slice A0 l0.length c0, .slice A1 l1.length c1] w fun e w' => e = .returned (.bool r) ∧ Below w.heap.size w w' := by
  (have HG_ := Aside0.mk hG); clear hG; (have HR0 := Aside0.mk hr0); (have HC0 := Aside0.mk hc0); clear hr0 hc0; (have HR1 := Aside0.mk hr1); (have HC1 := Aside0.mk hc1); clear hr1 hc1; (have HB := Aside0.mk (Below.refl w.heap.size w)); (have H : ((missivelaw20_told.f k l0).bind fun t292 => ((missivelaw20_told.f k l1).bind fun t295 => (missivelaw20_clash.l0 k t292 t295 ([] : List ByteArray) 0))) = some r := h); clear h; (replace H := Option.bind_eq_some_iff.mp H)
  obtain ⟨t292, A30, H⟩ := H
  (replace H : ((missivelaw20_told.f k l1).bind fun t295 => (missivelaw20_clash.l0 k t292 t295 ([] : List ByteArray) 0)) = some r := H); (have A3 := Aside0.mk A30); clear A30; (replace H := Option.bind_eq_some_iff.mp H)
  obtain ⟨t295, A40, H⟩ := H
  (replace H : (missivelaw20_clash.l0 k t292 t295 ([] : List ByteArray) 0) = some r := H); (have A4 := Aside0.mk A40); clear A40; (have H' := Aside0.mk H); clear H; (go_enter Tryd.func28, Tryd.ntmps28); (go_wp2_with (first | (go_at_call 66; (with_reducible refine (missivelaw20_told.calls k _ _ l0 t292 _ (by first | ((repeat (first | exact HG_.out | apply GW.drewN | apply GW.drew | apply GW.alloc)); done) | exact GW.below HG_.out sqWlj8_0) ?side1 ?side2 A3.out).mono ?_); (case side1 => repeat (first | exact HR0.out | (with_reducible refine Kd.C_alloc ?_ _) | (with_reducible refine Kd.C_drewN ?_ _) | (with_reducible refine Kd.C_drew ?_))); (case side2 => exact HC0.out); rintro e w5 ⟨v293, rfl, ho0, hb⟩; have n0_ := Aside0.mk (Kd.R_lower ho0 (below_size sqWlj8_0)); have n1_ := Aside0.mk (below_step sqWlj8_0 hb); clear HB; have HO294 := n0_; have HB := n1_; clear n0_ n1_; (try clear hb); (try clear hb2); (try clear hk); (try clear hi); (try clear ho0)) | (go_at_call 66; (with_reducible refine (missivelaw20_told.calls k _ _ l1 t295 _ (by first | ((repeat (first | exact HG_.out | apply GW.drewN | apply GW.drew | apply GW.alloc)); done) | exact GW.below HG_.out sqWlj8_0) ?side1 ?side2 A4.out).mono ?_); (case side1 => repeat (first | exact (Kd.C_below HR1.out HB.out) | (with_reducible refine Kd.C_alloc ?_ _) | (with_reducible refine Kd.C_drewN ?_ _) | (with_reducible refine Kd.C_drew ?_))); (case side2 => exact HC1.out); rintro e w6 ⟨v296, rfl, ho0, hb⟩; have n0_ := Aside0.mk (Kd.R_elder' sqWlj8_6 (Kd.R_base ho0) hb); have n1_ := Aside0.mk (Kd.R_lower (Kd.R_new' ho0 (Kd.R_lt sqWlj8_6)) (below_size sqWlj8_0)); have n2_ := Aside0.mk (below_step sqWlj8_0 hb); clear HO294; clear HB; have HO294 := n0_; have HO297 := n1_; have HB := n2_; clear n0_ n1_ n2_; (try clear hb); (try clear hb2); (try clear hk); (try clear hi); (try clear ho0)))); (repeat (go_quiet (first | (go_at_call 66; (with_reducible refine (missivelaw20_told.calls k _ _ l0 t292 _ (by first | ((repeat (first | exact HG_.out | apply GW.drewN | apply GW.drew | apply GW.alloc)); done) | exact GW.below HG_.out sqWlj8_0) ?side1 ?side2 A3.out).mono ?_); (case side1 => repeat (first | exact HR0.out | (with_reducible refine Kd.C_alloc ?_ _) | (with_reducible refine Kd.C_drewN ?_ _) | (with_reducible refine Kd.C_drew ?_))); (case side2 => exact HC0.out); rintro e w5 ⟨v293, rfl, ho0, hb⟩; have n0_ := Aside0.mk (Kd.R_lower ho0 (below_size sqWlj8_0)); have n1_ := Aside0.mk (below_step sqWlj8_0 hb); clear HB; have HO294 := n0_; have HB := n1_; clear n0_ n1_; (try clear hb); (try clear hb2); (try clear hk); (try clear hi); (try clear ho0)) | (go_at_call 66; (with_reducible refine (missivelaw20_told.calls k _ _ l1 t295 _ (by first | ((repeat (first | exact HG_.out | apply GW.drewN | apply GW.drew | apply GW.alloc)); done) | exact GW.below HG_.out sqWlj8_0) ?side1 ?side2 A4.out).mono ?_); (case side1 => repeat (first | exact (Kd.C_below HR1.out HB.out) | (with_reducible refine Kd.C_alloc ?_ _) | (with_reducible refine Kd.C_drewN ?_ _) | (with_reducible refine Kd.C_drew ?_))); (case side2 => exact HC1.out); rintro e w6 ⟨v296, rfl, ho0, hb⟩; have n0_ := Aside0.mk (Kd.R_elder' sqWlj8_6 (Kd.R_base ho0) hb); have n1_ := Aside0.mk (Kd.R_lower (Kd.R_new' ho0 (Kd.R_lt sqWlj8_6)) (below_size sqWlj8_0)); have n2_ := Aside0.mk (below_step sqWlj8_0 hb); clear HO294; clear HB; have HO294 := n0_; have HO297 := n1_; have HB := n2_; clear n0_ n1_ n2_; (try clear hb); (try clear hb2); (try clear hk); (try clear hi); (try clear ho0))); try go_wp2_with (first | (go_at_call 66; (with_reducible refine (missivelaw20_told.calls k _ _ l0 t292 _ (by first | ((repeat (first | exact HG_.out | apply GW.drewN | apply GW.drew | apply GW.alloc)); done) | exact GW.below HG_.out sqWlj8_0) ?side1 ?side2 A3.out).mono ?_); (case side1 => repeat (first | exact HR0.out | (with_reducible refine Kd.C_alloc ?_ _) | (with_reducible refine Kd.C_drewN ?_ _) | (with_reducible refine Kd.C_drew ?_))); (case side2 => exact HC0.out); rintro e w5 ⟨v293, rfl, ho0, hb⟩; have n0_ := Aside0.mk (Kd.R_lower ho0 (below_size sqWlj8_0)); have n1_ := Aside0.mk (below_step sqWlj8_0 hb); clear HB; have HO294 := n0_; have HB := n1_; clear n0_ n1_; (try clear hb); (try clear hb2); (try clear hk); (try clear hi); (try clear ho0)) | (go_at_call 66; (with_reducible refine (missivelaw20_told.calls k _ _ l1 t295 _ (by first | ((repeat (first | exact HG_.out | apply GW.drewN | apply GW.drew | apply GW.alloc)); done) | exact GW.below HG_.out sqWlj8_0) ?side1 ?side2 A4.out).mono ?_); (case side1 => repeat (first | exact (Kd.C_below HR1.out HB.out) | (with_reducible refine Kd.C_alloc ?_ _) | (with_reducible refine Kd.C_drewN ?_ _) | (with_reducible refine Kd.C_drew ?_))); (case side2 => exact HC1.out); rintro e w6 ⟨v296, rfl, ho0, hb⟩; have n0_ := Aside0.mk (Kd.R_elder' sqWlj8_6 (Kd.R_base ho0) hb); have n1_ := Aside0.mk (Kd.R_lower (Kd.R_new' ho0 (Kd.R_lt sqWlj8_6)) (below_size sqWlj8_0)); have n2_ := Aside0.mk (below_step sqWlj8_0 hb); clear HO294; clear HB; have HO294 := n0_; have HO297 := n1_; have HB := n2_; clear n0_ n1_ n2_; (try clear hb); (try clear hb2); (try clear hk); (try clear hi); (try clear ho0))))); (go_loopg [7, 8] k (fun kq v7 v8 w' => ∃ (x7_1 : List ByteArray) (x8_1 : Int), v8 = .int .i64 x8_1 ∧ Aside0 (missivelaw20_clash.l0 kq t292 t295 x7_1 x8_1 = some r) ∧ Aside0 (kq ≤ k) ∧ Aside0 (Kd.R Kd.string 9 w' w.heap.size (fun k_ => some k_ ≠ (v296 : Value).ownBlock ∧ some k_ ≠ (v7 : Value).ownBlock) v293 t292) ∧ Aside0 (Kd.R Kd.string 9 w' w.heap.size (fun k_ => some k_ ≠ (v293 : Value).ownBlock ∧ some k_ ≠ (v7 : Value).ownBlock) v296 t295) ∧ Aside0 (Kd.R Kd.string 9 w' w.heap.size (fun k_ => some k_ ≠ (v293 : Value).ownBlock ∧ some k_ ≠ (v296 : Value).ownBlock) v7 x7_1) ∧ Aside0 (Below w.heap.size w w')))
  case atStart => exact ⟨(([] : List ByteArray)), (0), (by first | rfl | (simp; done) | (simp [*]; done)), H', ⟨Nat.le_refl _⟩, ⟨by (with_reducible repeat (first | apply Kd.R_alloc | apply Kd.R_drewN | apply Kd.R_drew)); exact Kd.R_mono HO294.out (fun _ hk => ⟨hk.2, (by simp [Value.ownBlock])⟩)⟩, ⟨by (with_reducible repeat (first | apply Kd.R_alloc | apply Kd.R_drewN | apply Kd.R_drew)); exact Kd.R_mono HO297.out (fun _ hk => ⟨hk.2, (by simp [Value.ownBlock])⟩)⟩, ⟨by first | exact Kd.R_nil _ _ _ _ _ | exact Kd.N_nil _ _ _ _ _ | exact Kd.V_nil _ _ _ _ _ | exact Kd.Q_nil _ _ _ _ _ | exact Kd.S_nil _ _ _ _ _⟩, ⟨by repeat (first | (with_reducible first | exact HB.out | apply below_alloc | apply pw_below_drewN | apply below_drew1) | exact HB.out)⟩⟩
  case round =>
    (clear H'); (try clear c1); (try clear c2); (try clear p2)
    obtain ⟨x7_1, x8_1, rfl, HA, HK1, HO_5, HO_6, HO_7, HB⟩ := hrel
    cases gk with
    | zero => exact absurd HA.out (by simp [missivelaw20_clash.l0])
    | succ k1 =>
      (have H := HA.out); clear HA; (simp only [missivelaw20_clash.l0] at H)
      by_cases c7 : x8_1 < (t295.length : Int)
      · rw [if_pos c7] at H
        (have c7b0 : decide (x8_1 < (t295.length : Int)) = true := decide_eq_true c7); clear c7
        by_cases c8 : 0 ≤ x8_1
        · rw [if_pos c8] at H
          (have c8b0 : decide (0 ≤ x8_1) = true := decide_eq_true c8); clear c8; (replace H := Option.bind_eq_some_iff.mp H)
          obtain ⟨t299, A90, H⟩ := H
          (replace H : (if x7_1.length < 8796093022208 then (missivelaw20_clash.l0 k1 t292 t295 (x7_1 ++ [t299]) (wrap64 (x8_1 + 1))) else (none)) = some r := H); (have A9 := Aside0.mk A90); clear A90
          by_cases c10 : x7_1.length < 8796093022208
          · rw [if_pos c10] at H
            (have LMc10 := Aside0.mk c10); clear c10
            obtain ⟨y300, hy300⟩ : ∃ y_ : List ByteArray, y_ = (x7_1 ++ [t299]) := ⟨_, rfl⟩
            (replace H : (missivelaw20_clash.l0 k1 t292 t295 y300 (wrap64 (x8_1 + 1))) = some r := by first | (rw [hy300]; with_reducible exact H) | (have H2_ := (Option.bind_some _ _).symm.trans H; rw [hy300]; with_reducible exact H2_) | (have H2_ := (Option.bind_some _ _).symm.trans H; with_reducible exact H2_) | with_reducible exact H | (rw [hy300]; exact H) | exact H); (have Ny300 := Aside0.mk hy300); clear hy300; (have H' := Aside0.mk H); clear H
            obtain ⟨Ao11, co11, eo11⟩ := Kd.R_slice HO_6.out
            (subst eo11); (have p298 : 0 ≤ (x8_1 : Int) := of_decide_eq_true (by first | (with_reducible assumption) | assumption)); (have q298 : x8_1 < (t295.length : Int) := of_decide_eq_true (by first | (with_reducible assumption) | assumption))
            obtain ⟨ad298, e298, hx298_0⟩ := Kd.at_string (Kd.R_reads' HO_6.out).2.2 x8_1 p298 q298
            cases e298
            (replace p298 := eq_true p298); (replace q298 := eq_true q298); (go_wp2_with (first | (go_at_call 27; (with_reducible refine (digest_Sum.calls (rdOf ByteArray.empty t295 x8_1) t299 _ (by first | ((repeat (first | exact HG_.out | apply GW.drewN | apply GW.drew | apply GW.alloc)); done) | exact GW.below HG_.out sqWlj8_0) A9.out).mono ?_); rintro e w12 ⟨rfl, hb⟩; have n0_ := Aside0.mk (Kd.R_below sqWlj8_7 hb); have n1_ := Aside0.mk (Kd.R_below sqWlj8_8 hb); have n2_ := Aside0.mk (Kd.R_below sqWlj8_9 hb); have n3_ := Aside0.mk (below_step sqWlj8_0 hb); clear HO_5; clear HO_6; clear HO_7; clear HB; have HO_5 := n0_; have HO_6 := n1_; have HO_7 := n2_; have HB := n3_; clear n0_ n1_ n2_ n3_; (try clear hb); (try clear hb2); (try clear hk); (try clear hi)) | ((with_reducible refine gate_builtin (b := .append) (xs := #[.tmp 22, .tmp 28]) rfl ?_); at_builtin; refine Kd.R_append Kd.string (w0 := w) w.heap.size rfl (.tmp 22) (.tmp 28) 22 9 (.string ⟨#[]⟩) 16 rfl Tryd.underlying22 info9 rfl (by decide) (by omega) u7 x7_1 t299 [.string t299] (fun k_ => some k_ ≠ (v293 : Value).ownBlock ∧ some k_ ≠ (.slice (some ad298) t295.length co11 : Value).ownBlock) (fun _ => False) rfl rfl ?aP (fun _ hk => hk.elim) ?aF ?aO ?aB ?aS ?aL ?_; (case aP => exact rfl); (case aB => exact sqWlj8_0); (case aF => exact (fun k_ hk => ⟨Kd.fresh' (Kd.R_lt sqWlj8_7) k_ hk, Kd.fresh' (Kd.R_lt sqWlj8_8) k_ hk⟩)); (case aO => exact sqWlj8_9); (case aS => exact (below_size sqWlj8_0)); (case aL => have := LMc10.out; omega); intro v301 w13 ho hb hg hat; rw [← Ny300.out] at ho; have n0_ := Aside0.mk (Kd.R_after (ok := (fun k_ => some k_ ≠ (.slice (some ad298) t295.length co11 : Value).ownBlock)) sqWlj8_7 hg hat); have n1_ := Aside0.mk (Kd.R_after (ok := (fun k_ => some k_ ≠ (v293 : Value).ownBlock)) sqWlj8_8 hg hat); have n2_ := Aside0.mk (hb); have n3_ := Aside0.mk (ho); clear HO_5; clear HO_6; clear HB; clear HO_7; have HO_5 := n0_; have HO_6 := n1_; have HB := n2_; have HO302 := n3_; clear n0_ n1_ n2_ n3_; clear ho hb hg hat))); (repeat (go_quiet (first | (go_at_call 27; (with_reducible refine (digest_Sum.calls (rdOf ByteArray.empty t295 x8_1) t299 _ (by first | ((repeat (first | exact HG_.out | apply GW.drewN | apply GW.drew | apply GW.alloc)); done) | exact GW.below HG_.out sqWlj8_0) A9.out).mono ?_); rintro e w12 ⟨rfl, hb⟩; have n0_ := Aside0.mk (Kd.R_below sqWlj8_7 hb); have n1_ := Aside0.mk (Kd.R_below sqWlj8_8 hb); have n2_ := Aside0.mk (Kd.R_below sqWlj8_9 hb); have n3_ := Aside0.mk (below_step sqWlj8_0 hb); clear HO_5; clear HO_6; clear HO_7; clear HB; have HO_5 := n0_; have HO_6 := n1_; have HO_7 := n2_; have HB := n3_; clear n0_ n1_ n2_ n3_; (try clear hb); (try clear hb2); (try clear hk); (try clear hi)) | ((with_reducible refine gate_builtin (b := .append) (xs := #[.tmp 22, .tmp 28]) rfl ?_); at_builtin; refine Kd.R_append Kd.string (w0 := w) w.heap.size rfl (.tmp 22) (.tmp 28) 22 9 (.string ⟨#[]⟩) 16 rfl Tryd.underlying22 info9 rfl (by decide) (by omega) u7 x7_1 t299 [.string t299] (fun k_ => some k_ ≠ (v293 : Value).ownBlock ∧ some k_ ≠ (.slice (some ad298) t295.length co11 : Value).ownBlock) (fun _ => False) rfl rfl ?aP (fun _ hk => hk.elim) ?aF ?aO ?aB ?aS ?aL ?_; (case aP => exact rfl); (case aB => exact sqWlj8_0); (case aF => exact (fun k_ hk => ⟨Kd.fresh' (Kd.R_lt sqWlj8_7) k_ hk, Kd.fresh' (Kd.R_lt sqWlj8_8) k_ hk⟩)); (case aO => exact sqWlj8_9); (case aS => exact (below_size sqWlj8_0)); (case aL => have := LMc10.out; omega); intro v301 w13 ho hb hg hat; rw [← Ny300.out] at ho; have n0_ := Aside0.mk (Kd.R_after (ok := (fun k_ => some k_ ≠ (.slice (some ad298) t295.length co11 : Value).ownBlock)) sqWlj8_7 hg hat); have n1_ := Aside0.mk (Kd.R_after (ok := (fun k_ => some k_ ≠ (v293 : Value).ownBlock)) sqWlj8_8 hg hat); have n2_ := Aside0.mk (hb); have n3_ := Aside0.mk (ho); clear HO_5; clear HO_6; clear HB; clear HO_7; have HO_5 := n0_; have HO_6 := n1_; have HB := n2_; have HO302 := n3_; clear n0_ n1_ n2_ n3_; clear ho hb hg hat)); try go_wp2_with (first | (go_at_call 27; (with_reducible refine (digest_Sum.calls (rdOf ByteArray.empty t295 x8_1) t299 _ (by first | ((repeat (first | exact HG_.out | apply GW.drewN | apply GW.drew | apply GW.alloc)); done) | exact GW.below HG_.out sqWlj8_0) A9.out).mono ?_); rintro e w12 ⟨rfl, hb⟩; have n0_ := Aside0.mk (Kd.R_below sqWlj8_7 hb); have n1_ := Aside0.mk (Kd.R_below sqWlj8_8 hb); have n2_ := Aside0.mk (Kd.R_below sqWlj8_9 hb); have n3_ := Aside0.mk (below_step sqWlj8_0 hb); clear HO_5; clear HO_6; clear HO_7; clear HB; have HO_5 := n0_; have HO_6 := n1_; have HO_7 := n2_; have HB := n3_; clear n0_ n1_ n2_ n3_; (try clear hb); (try clear hb2); (try clear hk); (try clear hi)) | ((with_reducible refine gate_builtin (b := .append) (xs := #[.tmp 22, .tmp 28]) rfl ?_); at_builtin; refine Kd.R_append Kd.string (w0 := w) w.heap.size rfl (.tmp 22) (.tmp 28) 22 9 (.string ⟨#[]⟩) 16 rfl Tryd.underlying22 info9 rfl (by decide) (by omega) u7 x7_1 t299 [.string t299] (fun k_ => some k_ ≠ (v293 : Value).ownBlock ∧ some k_ ≠ (.slice (some ad298) t295.length co11 : Value).ownBlock) (fun _ => False) rfl rfl ?aP (fun _ hk => hk.elim) ?aF ?aO ?aB ?aS ?aL ?_; (case aP => exact rfl); (case aB => exact sqWlj8_0); (case aF => exact (fun k_ hk => ⟨Kd.fresh' (Kd.R_lt sqWlj8_7) k_ hk, Kd.fresh' (Kd.R_lt sqWlj8_8) k_ hk⟩)); (case aO => exact sqWlj8_9); (case aS => exact (below_size sqWlj8_0)); (case aL => have := LMc10.out; omega); intro v301 w13 ho hb hg hat; rw [← Ny300.out] at ho; have n0_ := Aside0.mk (Kd.R_after (ok := (fun k_ => some k_ ≠ (.slice (some ad298) t295.length co11 : Value).ownBlock)) sqWlj8_7 hg hat); have n1_ := Aside0.mk (Kd.R_after (ok := (fun k_ => some k_ ≠ (v293 : Value).ownBlock)) sqWlj8_8 hg hat); have n2_ := Aside0.mk (hb); have n3_ := Aside0.mk (ho); clear HO_5; clear HO_6; clear HB; clear HO_7; have HO_5 := n0_; have HO_6 := n1_; have HB := n2_; have HO302 := n3_; clear n0_ n1_ n2_ n3_; clear ho hb hg hat)))); (go_roundg k1)
            case measure => have := HK1.out; omega
            case rel => exact ⟨(y300), (wrap64 (x8_1 + 1)), (by first | rfl | (simp; done) | (simp [*]; done)), H', ⟨by have := HK1.out; omega⟩, ⟨by (with_reducible repeat (first | apply Kd.R_alloc | apply Kd.R_drewN | apply Kd.R_drew)); exact HO_5.out⟩, ⟨by (with_reducible repeat (first | apply Kd.R_alloc | apply Kd.R_drewN | apply Kd.R_drew)); exact HO_6.out⟩, ⟨by (with_reducible repeat (first | apply Kd.R_alloc | apply Kd.R_drewN | apply Kd.R_drew)); exact HO302.out⟩, ⟨by repeat (first | (with_reducible first | exact HB.out | apply below_alloc | apply pw_below_drewN | apply below_drew1) | exact HB.out)⟩⟩
          · rw [if_neg c10] at H
            (exact absurd H (by simp))
        · rw [if_neg c8] at H
          (exact absurd H (by simp))
      · rw [if_neg c7] at H
        (have c7b0 : decide (x8_1 < (t295.length : Int)) = false := decide_eq_false c7); clear c7; (have H' := Aside0.mk H); clear H
        obtain ⟨Ao14, co14, eo14⟩ := Kd.R_slice HO_6.out
        (subst eo14); go_wp2; (repeat (go_quiet (fail); try go_wp2)); (go_loopg [9] k1 (fun kq v9 w' => ∃ (x9_2 : Int), v9 = .int .i64 x9_2 ∧ Aside0 (missivelaw20_clash.l1 kq t292 t295 x7_1 x9_2 = some r) ∧ Aside0 (kq ≤ k1) ∧ Aside0 (Kd.R Kd.string 9 w' w.heap.size (fun k_ => some k_ ≠ ((.slice Ao14 t295.length co14) : Value).ownBlock ∧ some k_ ≠ (u7 : Value).ownBlock) v293 t292) ∧ Aside0 (Kd.R Kd.string 9 w' w.heap.size (fun k_ => some k_ ≠ (v293 : Value).ownBlock ∧ some k_ ≠ (u7 : Value).ownBlock) (.slice Ao14 t295.length co14) t295) ∧ Aside0 (Kd.R Kd.string 9 w' w.heap.size (fun k_ => some k_ ≠ (v293 : Value).ownBlock ∧ some k_ ≠ ((.slice Ao14 t295.length co14) : Value).ownBlock) u7 x7_1) ∧ Aside0 (Below w.heap.size w w')))
        case atStart => exact ⟨(0), (by first | rfl | (simp; done) | (simp [*]; done)), H', ⟨Nat.le_refl _⟩, ⟨by (with_reducible repeat (first | apply Kd.R_alloc | apply Kd.R_drewN | apply Kd.R_drew)); exact HO_5.out⟩, ⟨by (with_reducible repeat (first | apply Kd.R_alloc | apply Kd.R_drewN | apply Kd.R_drew)); exact HO_6.out⟩, ⟨by (with_reducible repeat (first | apply Kd.R_alloc | apply Kd.R_drewN | apply Kd.R_drew)); exact HO_7.out⟩, ⟨by repeat (first | (with_reducible first | exact HB.out | apply below_alloc | apply pw_below_drewN | apply below_drew1) | exact HB.out)⟩⟩
        case round =>
          (clear H'); (try clear c1); (try clear c2); (try clear p2); (try clear q2); (try clear hx2); (try clear p6); (try clear c7); (try clear c7b0); (try clear c8); (try clear c8b0); (try clear c10); (try clear hx298_0); (try clear p2); (try clear p298); (try clear q298)
          obtain ⟨x9_2, rfl, HA, HK2, HO_5, HO_6, HO_7, HB⟩ := hrel
          cases gk with
          | zero => exact absurd HA.out (by simp [missivelaw20_clash.l1])
          | succ k2 =>
            (have H := HA.out); clear HA; (simp only [missivelaw20_clash.l1] at H)
            by_cases c15 : x9_2 < (t292.length : Int)
            · rw [if_pos c15] at H
              (have c15b0 : decide (x9_2 < (t292.length : Int)) = true := decide_eq_true c15); clear c15
              by_cases c16 : 0 ≤ x9_2
              · rw [if_pos c16] at H
                (have c16b0 : decide (0 ≤ x9_2) = true := decide_eq_true c16); clear c16; (replace H := Option.bind_eq_some_iff.mp H)
                obtain ⟨t304, A170, H⟩ := H
                (replace H : (missivelaw20_clash.l2 k2 t292 t295 x7_1 x9_2 t304 0) = some r := H); (have A17 := Aside0.mk A170); clear A170; (have H' := Aside0.mk H); clear H
                obtain ⟨Ao18, co18, eo18⟩ := Kd.R_slice HO_5.out
                (subst eo18); (have p303 : 0 ≤ (x9_2 : Int) := of_decide_eq_true (by first | (with_reducible assumption) | assumption)); (have q303 : x9_2 < (t292.length : Int) := of_decide_eq_true (by first | (with_reducible assumption) | assumption))
                obtain ⟨ad303, e303, hx303_0⟩ := Kd.at_string (Kd.R_reads' HO_5.out).2.2 x9_2 p303 q303
                cases e303
                (replace p303 := eq_true p303); (replace q303 := eq_true q303); (go_wp2_with (first | (go_at_call 27; (with_reducible refine (digest_Sum.calls (rdOf ByteArray.empty t292 x9_2) t304 _ (by first | ((repeat (first | exact HG_.out | apply GW.drewN | apply GW.drew | apply GW.alloc)); done) | exact GW.below HG_.out sqWlj8_0) A17.out).mono ?_); rintro e w19 ⟨rfl, hb⟩; have n0_ := Aside0.mk (Kd.R_below sqWlj8_7 hb); have n1_ := Aside0.mk (Kd.R_below sqWlj8_8 hb); have n2_ := Aside0.mk (Kd.R_below sqWlj8_9 hb); have n3_ := Aside0.mk (below_step sqWlj8_0 hb); clear HO_5; clear HO_6; clear HO_7; clear HB; have HO_5 := n0_; have HO_6 := n1_; have HO_7 := n2_; have HB := n3_; clear n0_ n1_ n2_ n3_; (try clear hb); (try clear hb2); (try clear hk); (try clear hi)))); (repeat (go_quiet (first | (go_at_call 27; (with_reducible refine (digest_Sum.calls (rdOf ByteArray.empty t292 x9_2) t304 _ (by first | ((repeat (first | exact HG_.out | apply GW.drewN | apply GW.drew | apply GW.alloc)); done) | exact GW.below HG_.out sqWlj8_0) A17.out).mono ?_); rintro e w19 ⟨rfl, hb⟩; have n0_ := Aside0.mk (Kd.R_below sqWlj8_7 hb); have n1_ := Aside0.mk (Kd.R_below sqWlj8_8 hb); have n2_ := Aside0.mk (Kd.R_below sqWlj8_9 hb); have n3_ := Aside0.mk (below_step sqWlj8_0 hb); clear HO_5; clear HO_6; clear HO_7; clear HB; have HO_5 := n0_; have HO_6 := n1_; have HO_7 := n2_; have HB := n3_; clear n0_ n1_ n2_ n3_; (try clear hb); (try clear hb2); (try clear hk); (try clear hi))); try go_wp2_with (first | (go_at_call 27; (with_reducible refine (digest_Sum.calls (rdOf ByteArray.empty t292 x9_2) t304 _ (by first | ((repeat (first | exact HG_.out | apply GW.drewN | apply GW.drew | apply GW.alloc)); done) | exact GW.below HG_.out sqWlj8_0) A17.out).mono ?_); rintro e w19 ⟨rfl, hb⟩; have n0_ := Aside0.mk (Kd.R_below sqWlj8_7 hb); have n1_ := Aside0.mk (Kd.R_below sqWlj8_8 hb); have n2_ := Aside0.mk (Kd.R_below sqWlj8_9 hb); have n3_ := Aside0.mk (below_step sqWlj8_0 hb); clear HO_5; clear HO_6; clear HO_7; clear HB; have HO_5 := n0_; have HO_6 := n1_; have HO_7 := n2_; have HB := n3_; clear n0_ n1_ n2_ n3_; (try clear hb); (try clear hb2); (try clear hk); (try clear hi))))); (go_loopg [11] k2 (fun kq v11 w' => ∃ (x11_3 : Int), v11 = .int .i64 x11_3 ∧ Aside0 (missivelaw20_clash.l2 kq t292 t295 x7_1 x9_2 t304 x11_3 = some r) ∧ Aside0 (kq ≤ k2) ∧ Aside0 (Kd.R Kd.string 9 w' w.heap.size (fun k_ => some k_ ≠ ((.slice Ao14 t295.length co14) : Value).ownBlock ∧ some k_ ≠ (u7 : Value).ownBlock) (.slice (some ad303) t292.length co18) t292) ∧ Aside0 (Kd.R Kd.string 9 w' w.heap.size (fun k_ => some k_ ≠ ((.slice (some ad303) t292.length co18) : Value).ownBlock ∧ some k_ ≠ (u7 : Value).ownBlock) (.slice Ao14 t295.length co14) t295) ∧ Aside0 (Kd.R Kd.string 9 w' w.heap.size (fun k_ => some k_ ≠ ((.slice (some ad303) t292.length co18) : Value).ownBlock ∧ some k_ ≠ ((.slice Ao14 t295.length co14) : Value).ownBlock) u7 x7_1) ∧ Aside0 (Below w.heap.size w w')))
                case atStart => exact ⟨(0), (by first | rfl | (simp; done) | (simp [*]; done)), H', ⟨Nat.le_refl _⟩, ⟨by (with_reducible repeat (first | apply Kd.R_alloc | apply Kd.R_drewN | apply Kd.R_drew)); exact HO_5.out⟩, ⟨by (with_reducible repeat (first | apply Kd.R_alloc | apply Kd.R_drewN | apply Kd.R_drew)); exact HO_6.out⟩, ⟨by (with_reducible repeat (first | apply Kd.R_alloc | apply Kd.R_drewN | apply Kd.R_drew)); exact HO_7.out⟩, ⟨by repeat (first | (with_reducible first | exact HB.out | apply below_alloc | apply pw_below_drewN | apply below_drew1) | exact HB.out)⟩⟩
                case round =>
                  (clear H'); (try clear c1); (try clear c2); (try clear p2); (try clear q2); (try clear hx2); (try clear p3); (try clear q3); (try clear hx3); (try clear p6); (try clear c7); (try clear c7b0); (try clear c8); (try clear c8b0); (try clear c10); (try clear c15); (try clear c15b0); (try clear c16); (try clear c16b0); (try clear hx298_0); (try clear hx303_0); (try clear p2); (try clear p298); (try clear p303); (try clear p6); (try clear q2); (try clear q298); (try clear q303)
                  obtain ⟨x11_3, rfl, HA, HK3, HO_5, HO_6, HO_7, HB⟩ := hrel
                  cases gk with
                  | zero => exact absurd HA.out (by simp [missivelaw20_clash.l2])
                  | succ k3 =>
                    (have H := HA.out); clear HA; (simp only [missivelaw20_clash.l2] at H)
                    by_cases c20 : x11_3 < (t295.length : Int)
                    · rw [if_pos c20] at H
                      (have c20b0 : decide (x11_3 < (t295.length : Int)) = true := decide_eq_true c20); clear c20
                      by_cases c21 : 0 ≤ x11_3
                      · rw [if_pos c21] at H
                        (have c21b0 : decide (0 ≤ x11_3) = true := decide_eq_true c21); clear c21
                        by_cases c22 : x11_3 < (x7_1.length : Int)
                        · rw [if_pos c22] at H
                          (have c22b0 : decide (x11_3 < (x7_1.length : Int)) = true := decide_eq_true c22); clear c22
                          by_cases c23 : t304.toList = (rdOf ByteArray.empty x7_1 x11_3).toList
                          · rw [if_pos c23] at H
                            (have c23b0 : (t304.toList == (rdOf ByteArray.empty x7_1 x11_3).toList) = true := beq_iff_eq.mpr c23); (have c23b1 : (t304.toList != (rdOf ByteArray.empty x7_1 x11_3).toList) = false := bne_eq_false_iff_eq.mpr c23); clear c23
                            by_cases c24 : 0 ≤ x9_2
                            · rw [if_pos c24] at H
                              (have c24b0 : decide (0 ≤ x9_2) = true := decide_eq_true c24); clear c24
                              by_cases c25 : x9_2 < (t292.length : Int)
                              · rw [if_pos c25] at H
                                (have c25b0 : decide (x9_2 < (t292.length : Int)) = true := decide_eq_true c25); clear c25
                                by_cases c26 : (rdOf ByteArray.empty t292 x9_2).toList = (rdOf ByteArray.empty t295 x11_3).toList
                                · rw [if_pos c26] at H
                                  (have c26b0 : ((rdOf ByteArray.empty t292 x9_2).toList == (rdOf ByteArray.empty t295 x11_3).toList) = true := beq_iff_eq.mpr c26); (have c26b1 : ((rdOf ByteArray.empty t292 x9_2).toList != (rdOf ByteArray.empty t295 x11_3).toList) = false := bne_eq_false_iff_eq.mpr c26); clear c26; (have H' := Aside0.mk H); clear H
                                  obtain ⟨Ao27, co27, eo27⟩ := Kd.R_slice HO_7.out
                                  (subst eo27); (have p305 : 0 ≤ (x11_3 : Int) := of_decide_eq_true (by first | (with_reducible assumption) | assumption)); (have q305 : x11_3 < (x7_1.length : Int) := of_decide_eq_true (by first | (with_reducible assumption) | assumption))
                                  obtain ⟨ad305, e305, hx305_0⟩ := Kd.at_string (Kd.R_reads' HO_7.out).2.2 x11_3 p305 q305
                                  cases e305
                                  (replace p305 := eq_true p305); (replace q305 := eq_true q305); (have p306 : 0 ≤ (x9_2 : Int) := of_decide_eq_true (by first | (with_reducible assumption) | assumption)); (have q306 : x9_2 < (t292.length : Int) := of_decide_eq_true (by first | (with_reducible assumption) | assumption))
                                  obtain ⟨ad306, e306, hx306_0⟩ := Kd.at_string (Kd.R_reads' HO_5.out).2.2 x9_2 p306 q306
                                  obtain rfl : ad303 = ad306 := (by injection e306)
                                  (replace p306 := eq_true p306); (replace q306 := eq_true q306); (have p307 : 0 ≤ (x11_3 : Int) := of_decide_eq_true (by first | (with_reducible assumption) | assumption)); (have q307 : x11_3 < (t295.length : Int) := of_decide_eq_true (by first | (with_reducible assumption) | assumption))
                                  obtain ⟨ad307, e307, hx307_0⟩ := Kd.at_string (Kd.R_reads' HO_6.out).2.2 x11_3 p307 q307
                                  cases e307
                                  (replace p307 := eq_true p307); (replace q307 := eq_true q307); go_wp2; (repeat (go_quiet (fail); try go_wp2)); (go_roundg k3)
                                  case measure => have := HK1.out; have := HK2.out; have := HK3.out; omega
                                  case rel => exact ⟨(wrap64 (x11_3 + 1)), (by first | rfl | (simp; done) | (simp [*]; done)), H', ⟨by have := HK1.out; have := HK2.out; have := HK3.out; omega⟩, ⟨by (with_reducible repeat (first | apply Kd.R_alloc | apply Kd.R_drewN | apply Kd.R_drew)); exact HO_5.out⟩, ⟨by (with_reducible repeat (first | apply Kd.R_alloc | apply Kd.R_drewN | apply Kd.R_drew)); exact HO_6.out⟩, ⟨by (with_reducible repeat (first | apply Kd.R_alloc | apply Kd.R_drewN | apply Kd.R_drew)); exact HO_7.out⟩, ⟨by repeat (first | (with_reducible first | exact HB.out | apply below_alloc | apply pw_below_drewN | apply below_drew1) | exact HB.out)⟩⟩
                                · rw [if_neg c26] at H
                                  (have c26b0 : ((rdOf ByteArray.empty t292 x9_2).toList == (rdOf ByteArray.empty t295 x11_3).toList) = false := beq_eq_false_iff_ne.mpr c26); (have c26b1 : ((rdOf ByteArray.empty t292 x9_2).toList != (rdOf ByteArray.empty t295 x11_3).toList) = true := bne_iff_ne.mpr c26)
                                  obtain rfl := Option.some.inj H
                                  obtain ⟨Ao28, co28, eo28⟩ := Kd.R_slice HO_7.out
                                  (subst eo28); (have p305 : 0 ≤ (x11_3 : Int) := of_decide_eq_true (by first | (with_reducible assumption) | assumption)); (have q305 : x11_3 < (x7_1.length : Int) := of_decide_eq_true (by first | (with_reducible assumption) | assumption))
                                  obtain ⟨ad305, e305, hx305_0⟩ := Kd.at_string (Kd.R_reads' HO_7.out).2.2 x11_3 p305 q305
                                  cases e305
                                  (replace p305 := eq_true p305); (replace q305 := eq_true q305); (have p306 : 0 ≤ (x9_2 : Int) := of_decide_eq_true (by first | (with_reducible assumption) | assumption)); (have q306 : x9_2 < (t292.length : Int) := of_decide_eq_true (by first | (with_reducible assumption) | assumption))
                                  obtain ⟨ad306, e306, hx306_0⟩ := Kd.at_string (Kd.R_reads' HO_5.out).2.2 x9_2 p306 q306
                                  obtain rfl : ad303 = ad306 := (by injection e306)
                                  (replace p306 := eq_true p306); (replace q306 := eq_true q306); (have p307 : 0 ≤ (x11_3 : Int) := of_decide_eq_true (by first | (with_reducible assumption) | assumption)); (have q307 : x11_3 < (t295.length : Int) := of_decide_eq_true (by first | (with_reducible assumption) | assumption))
                                  obtain ⟨ad307, e307, hx307_0⟩ := Kd.at_string (Kd.R_reads' HO_6.out).2.2 x11_3 p307 q307
                                  cases e307
                                  (replace p307 := eq_true p307); (replace q307 := eq_true q307); go_wp2; (repeat (go_quiet (fail); try go_wp2)); (go_ret); (exact ⟨by first | rfl | (simp [errW_none, errW_some] <;> rfl) | (simp [*, errW_none, errW_some] <;> rfl), by repeat (first | (with_reducible first | exact HB.out | apply below_alloc | apply pw_below_drewN | apply below_drew1) | exact HB.out)⟩)
                              · rw [if_neg c25] at H
                                (exact absurd H (by simp))
                            · rw [if_neg c24] at H
                              (exact absurd H (by simp))
                          · rw [if_neg c23] at H
                            (have c23b0 : (t304.toList == (rdOf ByteArray.empty x7_1 x11_3).toList) = false := beq_eq_false_iff_ne.mpr c23); (have c23b1 : (t304.toList != (rdOf ByteArray.empty x7_1 x11_3).toList) = true := bne_iff_ne.mpr c23); (have H' := Aside0.mk H); clear H
                            obtain ⟨Ao29, co29, eo29⟩ := Kd.R_slice HO_7.out
                            (subst eo29); (have p305 : 0 ≤ (x11_3 : Int) := of_decide_eq_true (by first | (with_reducible assumption) | assumption)); (have q305 : x11_3 < (x7_1.length : Int) := of_decide_eq_true (by first | (with_reducible assumption) | assumption))
                            obtain ⟨ad305, e305, hx305_0⟩ := Kd.at_string (Kd.R_reads' HO_7.out).2.2 x11_3 p305 q305
                            cases e305
                            (replace p305 := eq_true p305); (replace q305 := eq_true q305); go_wp2; (repeat (go_quiet (fail); try go_wp2)); (go_roundg k3)
                            case measure => have := HK1.out; have := HK2.out; have := HK3.out; omega
                            case rel => exact ⟨(wrap64 (x11_3 + 1)), (by first | rfl | (simp; done) | (simp [*]; done)), H', ⟨by have := HK1.out; have := HK2.out; have := HK3.out; omega⟩, ⟨by (with_reducible repeat (first | apply Kd.R_alloc | apply Kd.R_drewN | apply Kd.R_drew)); exact HO_5.out⟩, ⟨by (with_reducible repeat (first | apply Kd.R_alloc | apply Kd.R_drewN | apply Kd.R_drew)); exact HO_6.out⟩, ⟨by (with_reducible repeat (first | apply Kd.R_alloc | apply Kd.R_drewN | apply Kd.R_drew)); exact HO_7.out⟩, ⟨by repeat (first | (with_reducible first | exact HB.out | apply below_alloc | apply pw_below_drewN | apply below_drew1) | exact HB.out)⟩⟩
                        · rw [if_neg c22] at H
                          (exact absurd H (by simp))
                      · rw [if_neg c21] at H
                        (exact absurd H (by simp))
                    · rw [if_neg c20] at H
                      (have c20b0 : decide (x11_3 < (t295.length : Int)) = false := decide_eq_false c20); clear c20; (have H' := Aside0.mk H); clear H; go_wp2; (repeat (go_quiet (fail); try go_wp2)); (go_roundg k3)
                      case measure => have := HK1.out; have := HK2.out; have := HK3.out; omega
                      case rel => exact ⟨(wrap64 (x9_2 + 1)), (by first | rfl | (simp; done) | (simp [*]; done)), H', ⟨by have := HK1.out; have := HK2.out; have := HK3.out; omega⟩, ⟨by (with_reducible repeat (first | apply Kd.R_alloc | apply Kd.R_drewN | apply Kd.R_drew)); exact HO_5.out⟩, ⟨by (with_reducible repeat (first | apply Kd.R_alloc | apply Kd.R_drewN | apply Kd.R_drew)); exact HO_6.out⟩, ⟨by (with_reducible repeat (first | apply Kd.R_alloc | apply Kd.R_drewN | apply Kd.R_drew)); exact HO_7.out⟩, ⟨by repeat (first | (with_reducible first | exact HB.out | apply below_alloc | apply pw_below_drewN | apply below_drew1) | exact HB.out)⟩⟩
              · rw [if_neg c16] at H
                (exact absurd H (by simp))
            · rw [if_neg c15] at H
              (have c15b0 : decide (x9_2 < (t292.length : Int)) = false := decide_eq_false c15); clear c15
              obtain rfl := Option.some.inj H
              obtain ⟨Ao30, co30, eo30⟩ := Kd.R_slice HO_5.out
              (subst eo30); go_wp2; (repeat (go_quiet (fail); try go_wp2)); (go_ret); (exact ⟨by first | rfl | (simp [errW_none, errW_some] <;> rfl) | (simp [*, errW_none, errW_some] <;> rfl), by repeat (first | (with_reducible first | exact HB.out | apply below_alloc | apply pw_below_drewN | apply below_drew1) | exact HB.out)⟩)

end Go.Proofs.YtjnlppmodagegaaDoor.PPd
