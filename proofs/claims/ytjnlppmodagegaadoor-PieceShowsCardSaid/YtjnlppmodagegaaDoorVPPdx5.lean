/- Printed for this claim by a program over the kit's print: Go functions as Lean functions, each with the proof that the call comes to what the function says. -/
import Derived.Test.YtjnlppmodagegaaDoorVPPdx0
import Derived.Test.YtjnlppmodagegaaDoorVPPdx3
import Derived.Test.YtjnlppmodagegaaDoorVPPdx4
namespace Go.Proofs.YtjnlppmodagegaaDoor.PPd
open Go.RowKit Go.Proofs.YtjnlppmodagegaaDoorW.PrintWords Go.Proofs.YtjnlppmodagegaaDoorW.PrintLast Go.Proofs.YtjnlppmodagegaaDoorW.PrintMore
theorem sqArr5_ {α : Type} (l : List α) (i : Nat) (a : α) : l.toArray.setIfInBounds i a = (l.set i a).toArray := List.setIfInBounds_toArray l i a
theorem sqBrr5_ {α : Type} (x a : α) (l : List α) : (x :: l).set 0 a = a :: l := rfl
theorem sqCrr5_ {α : Type} (x a : α) (l : List α) (n : Nat) : (x :: l).set (n + 1) a = x :: l.set n a := rfl
attribute [local go_sem] max2_int min2_int max_two min_two max_three min_three max_four min_four   -- for this text's walks alone
set_option linter.unusedVariables false
set_option linter.unusedSimpArgs false

/-! ### piece_Show: function 24 -/
def piece_Show.l0 : Nat → ByteArray → ByteArray → List (S45) → List Bool → List ByteArray → Int → Int → Option ((List (S45)))
  | 0, _, _, _, _, _, _, _ => none
  | k + 1, x0, x1, x9, x11, x21, x22, x23 => if x23 < x22 then (if 0 ≤ x23 then (if x23 < (x21.length : Int) then ((piece_Salt.f x0 x1 x23).bind fun t171 => (if x23 < (x11.length : Int) then (if rdOf false x11 x23 = true then (if t171.size + (rdOf ByteArray.empty x21 x23).size ≤ 9223372036854775807 then ((merkle_Leaf.f (t171 ++ (rdOf ByteArray.empty x21 x23))).bind fun t173 => (if x9.length < 2513169434916 then (piece_Show.l0 k x0 x1 (x9 ++ [(⟨true, (⟨#[]⟩ : ByteArray), (⟨#[]⟩ : ByteArray), t173⟩ : S45)]) x11 x21 x22 (wrap64 (x23 + 1))) else (none))) else (none)) else (if x9.length < 2513169434916 then (piece_Show.l0 k x0 x1 (x9 ++ [(⟨false, t171, rdOf ByteArray.empty x21 x23, (⟨#[]⟩ : ByteArray)⟩ : S45)]) x11 x21 x22 (wrap64 (x23 + 1))) else (none))) else (none))) else (none)) else (none)) else (some x9)
def piece_Show.f (k : Nat) (a0 : ByteArray) (a1 : ByteArray) (a2 : ByteArray) (l3 : List (S43)) : Option ((List (S45))) := (piece_Lines.f k a2).bind fun t164 => ((piece_cover.f k l3 (t164.length : Int)).bind fun t167 => (piece_Show.l0 k a0 a1 ([] : List (S45)) t167 t164 (t164.length : Int) 0))
theorem piece_Show.mono_l : ∀ k, (∀ y0 y1 y2 y3 y4 y5 y6, LeO (piece_Show.l0 k y0 y1 y2 y3 y4 y5 y6) (piece_Show.l0 (k + 1) y0 y1 y2 y3 y4 y5 y6))
  | 0 => fun _ _ _ _ _ _ _ r h => by simp [piece_Show.l0] at h
  | k + 1 => by
    have ih0 := piece_Show.mono_l k
    · intro y0 y1 y2 y3 y4 y5 y6
      unfold piece_Show.l0
      repeat' first
      | (with_reducible exact ih0 _ _ _ _ _ _ _)
      | (with_reducible exact piece_Lines.mono _ _)
      | (with_reducible exact piece_cover.mono _ _ _)
      | (with_reducible exact LeO.refl _)
      | (with_reducible exact LeO.none _)
      | (with_reducible refine LeO.ite ?_ ?_)
      | (with_reducible refine LeO.bind ?_ (fun _ => ?_))
      | exact ih0 _ _ _ _ _ _ _
      | exact piece_Lines.mono _ _
      | exact piece_cover.mono _ _ _
      | exact LeO.none _
      | refine LeO.ite ?_ ?_
      | refine LeO.bind ?_ (fun _ => ?_)
theorem piece_Show.mono : ∀ a0 a1 a2 a3 k, LeO (piece_Show.f k a0 a1 a2 a3) (piece_Show.f (k + 1) a0 a1 a2 a3) := by
  intro a0 a1 a2 a3 k
  have ih0 := piece_Show.mono_l k
  unfold piece_Show.f
  repeat' first
      | (with_reducible exact ih0 _ _ _ _ _ _ _)
      | (with_reducible exact piece_Lines.mono _ _)
      | (with_reducible exact piece_cover.mono _ _ _)
      | (with_reducible exact LeO.refl _)
      | (with_reducible exact LeO.none _)
      | (with_reducible refine LeO.ite ?_ ?_)
      | (with_reducible refine LeO.bind ?_ (fun _ => ?_))
      | exact ih0 _ _ _ _ _ _ _
      | exact piece_Lines.mono _ _
      | exact piece_cover.mono _ _ _
      | exact LeO.none _
      | refine LeO.ite ?_ ?_
      | refine LeO.bind ?_ (fun _ => ?_)
set_option maxHeartbeats 8000000 in
set_option maxRecDepth 100000 in
theorem piece_Show.calls (k : Nat) (a0 : ByteArray) (a1 : ByteArray) (a2 : ByteArray) (A3 : Option Addr) (c3 : Nat) (l3 : List (S43)) (r : List (S45)) (w : World) (hG : GW w) (hr3 : Kd.C k43 w A3 l3.length l3) (hc3 : l3.length ≤ c3) (h : piece_Show.f k a0 a1 a2 l3 = some r) :
    Calls Tryd.prog 24 #[.string a0, .string a1, .string a2, .slice A3 l3.length c3] w fun e w' => ∃ v0_ : Value, e = .returned (v0_) ∧ Kd.R k45 45 w' w.heap.size (fun _ => True) v0_ r ∧ Below w.heap.size w w' := by
  (have HG_ := Aside0.mk hG); clear hG; (have hu45 := Tryd.underlying45); (have HR3 := Aside0.mk hr3); (have HC3 := Aside0.mk hc3); clear hr3 hc3; (have HB := Aside0.mk (Below.refl w.heap.size w)); (have H : ((piece_Lines.f k a2).bind fun t164 => ((piece_cover.f k l3 (t164.length : Int)).bind fun t167 => (piece_Show.l0 k a0 a1 ([] : List (S45)) t167 t164 (t164.length : Int) 0))) = some r := h); clear h; (replace H := Option.bind_eq_some_iff.mp H)
  obtain ⟨t164, A50, H⟩ := H
  (replace H : ((piece_cover.f k l3 (t164.length : Int)).bind fun t167 => (piece_Show.l0 k a0 a1 ([] : List (S45)) t167 t164 (t164.length : Int) 0)) = some r := H); (have A5 := Aside0.mk A50); clear A50; (replace H := Option.bind_eq_some_iff.mp H)
  obtain ⟨t167, A60, H⟩ := H
  (replace H : (piece_Show.l0 k a0 a1 ([] : List (S45)) t167 t164 (t164.length : Int) 0) = some r := H); (have A6 := Aside0.mk A60); clear A60; (have H' := Aside0.mk H); clear H; (go_enter Tryd.func24, Tryd.ntmps24); (go_wp2_with (first | ((with_reducible refine gate_callee (f := 54) rfl ?_); refine goesL_ (some 16) rfl rfl Tryd.func54 (by kernel_rfl) rfl #[.string a2] rfl (by (try simp only [List.map_toArray, List.map_cons, List.map_nil]); first | done | rfl | (simp only [List.length_drop, List.length_take]; rfl)) ?_; (with_reducible refine (piece_Lines.calls k a2 t164 _ (by first | ((repeat (first | exact HG_.out | apply GW.drewN | apply GW.drew | apply GW.alloc)); done) | exact GW.below HG_.out (by repeat (first | (with_reducible first | exact HB.out | apply below_alloc | apply pw_below_drewN | apply below_drew1) | exact HB.out))) A5.out).mono ?_); rintro e w7 ⟨v165, rfl, ho0, hb⟩; refine ⟨_, rfl, ?_⟩; have n0_ := Aside0.mk (Kd.R_lower ho0 (below_size (by repeat (first | (with_reducible first | exact HB.out | apply below_alloc | apply pw_below_drewN | apply below_drew1) | exact HB.out)))); have n1_ := Aside0.mk (below_step (by repeat (first | (with_reducible first | exact HB.out | apply below_alloc | apply pw_below_drewN | apply below_drew1) | exact HB.out)) hb); clear HB; have HO166 := n0_; have HB := n1_; clear n0_ n1_; (try clear hb); (try clear hb2); (try clear hk); (try clear hi); (try clear ho0); obtain ⟨Ao8, co8, eo8⟩ := Kd.R_slice HO166.out; subst eo8) | ((with_reducible refine gate_callee (f := 60) rfl ?_); refine goesL_ (some 20) rfl rfl Tryd.func60 (by kernel_rfl) rfl #[.slice A3 l3.length c3, .int .i64 (t164.length : Int)] rfl (by (try simp only [List.map_toArray, List.map_cons, List.map_nil]); first | done | rfl | (simp only [List.length_drop, List.length_take]; rfl)) ?_; (with_reducible refine (piece_cover.calls k _ _ l3 (t164.length : Int) t167 _ (by first | ((repeat (first | exact HG_.out | apply GW.drewN | apply GW.drew | apply GW.alloc)); done) | exact GW.below HG_.out (by repeat (first | (with_reducible first | exact HB.out | apply below_alloc | apply pw_below_drewN | apply below_drew1) | exact HB.out))) ?side1 ?side2 A6.out).mono ?_); (case side1 => repeat (first | exact (Kd.C_below HR3.out HB.out) | (with_reducible refine Kd.C_alloc ?_ _) | (with_reducible refine Kd.C_drewN ?_ _) | (with_reducible refine Kd.C_drew ?_))); (case side2 => exact HC3.out); rintro e w9 ⟨v168, rfl, ho0, hb⟩; refine ⟨_, rfl, ?_⟩; have n0_ := Aside0.mk (Kd.R_below (by (with_reducible repeat (first | apply Kd.R_alloc | apply Kd.R_drewN | apply Kd.R_drew)); exact HO166.out) hb); have n1_ := Aside0.mk (Kd.R_lower ho0 (below_size (by repeat (first | (with_reducible first | exact HB.out | apply below_alloc | apply pw_below_drewN | apply below_drew1) | exact HB.out)))); have n2_ := Aside0.mk (below_step (by repeat (first | (with_reducible first | exact HB.out | apply below_alloc | apply pw_below_drewN | apply below_drew1) | exact HB.out)) hb); clear HO166; clear HB; have HO166 := n0_; have HO169 := n1_; have HB := n2_; clear n0_ n1_ n2_; (try clear hb); (try clear hb2); (try clear hk); (try clear hi); (try clear ho0)))); (go_loopg [9, 23] k (fun kq v9 v23 w' => ∃ (x9_1 : List (S45)) (x23_1 : Int), v23 = .int .i64 x23_1 ∧ Aside0 (piece_Show.l0 kq a0 a1 x9_1 t167 t164 (t164.length : Int) x23_1 = some r) ∧ Aside0 (kq ≤ k) ∧ Aside0 (Kd.R k45 45 w' w.heap.size (fun _ => True) v9 x9_1) ∧ Aside0 (Kd.R Kd.bool 4 w' w.heap.size (fun _ => True) v168 t167) ∧ Aside0 (Kd.R Kd.string 9 w' w.heap.size (fun _ => True) (.slice Ao8 t164.length co8) t164) ∧ Aside0 (Below w.heap.size w w')))
  case atStart => exact ⟨(([] : List (S45))), (0), (by first | rfl | (simp; done) | (simp [*]; done)), H', ⟨Nat.le_refl _⟩, ⟨by first | exact Kd.R_nil _ _ _ _ _ | exact Kd.N_nil _ _ _ _ _ | exact Kd.V_nil _ _ _ _ _ | exact Kd.Q_nil _ _ _ _ _ | exact Kd.S_nil _ _ _ _ _⟩, ⟨by (with_reducible repeat (first | apply Kd.R_alloc | apply Kd.R_drewN | apply Kd.R_drew)); exact HO169.out⟩, ⟨by (with_reducible repeat (first | apply Kd.R_alloc | apply Kd.R_drewN | apply Kd.R_drew)); exact HO166.out⟩, ⟨by repeat (first | (with_reducible first | exact HB.out | apply below_alloc | apply pw_below_drewN | apply below_drew1) | exact HB.out)⟩⟩
  case round =>
    (clear H'); (try clear c2); (try clear p2); (try clear c3); (try clear c5); (try clear c6)
    obtain ⟨x9_1, x23_1, rfl, HA, HK1, HO_9, HO_11, HO_21, HB⟩ := hrel
    cases gk with
    | zero => exact absurd HA.out (by simp [piece_Show.l0])
    | succ k1 =>
      (have H := HA.out); clear HA; (simp only [piece_Show.l0] at H)
      by_cases c10 : x23_1 < (t164.length : Int)
      · rw [if_pos c10] at H
        (have c10b0 : decide (x23_1 < (t164.length : Int)) = true := decide_eq_true c10); clear c10
        by_cases c11 : 0 ≤ x23_1
        · rw [if_pos c11] at H
          (have c11b0 : decide (0 ≤ x23_1) = true := decide_eq_true c11); clear c11
          by_cases c12 : x23_1 < (t164.length : Int)
          · rw [if_pos c12] at H
            (have c12b0 : decide (x23_1 < (t164.length : Int)) = true := decide_eq_true c12); clear c12; (replace H := Option.bind_eq_some_iff.mp H)
            obtain ⟨t171, A130, H⟩ := H
            (replace H : (if x23_1 < (t167.length : Int) then (if rdOf false t167 x23_1 = true then (if t171.size + (rdOf ByteArray.empty t164 x23_1).size ≤ 9223372036854775807 then ((merkle_Leaf.f (t171 ++ (rdOf ByteArray.empty t164 x23_1))).bind fun t173 => (if x9_1.length < 2513169434916 then (piece_Show.l0 k1 a0 a1 (x9_1 ++ [(⟨true, (⟨#[]⟩ : ByteArray), (⟨#[]⟩ : ByteArray), t173⟩ : S45)]) t167 t164 (t164.length : Int) (wrap64 (x23_1 + 1))) else (none))) else (none)) else (if x9_1.length < 2513169434916 then (piece_Show.l0 k1 a0 a1 (x9_1 ++ [(⟨false, t171, rdOf ByteArray.empty t164 x23_1, (⟨#[]⟩ : ByteArray)⟩ : S45)]) t167 t164 (t164.length : Int) (wrap64 (x23_1 + 1))) else (none))) else (none)) = some r := H); (have A13 := Aside0.mk A130); clear A130
            by_cases c14 : x23_1 < (t167.length : Int)
            · rw [if_pos c14] at H
              (have c14b0 : decide (x23_1 < (t167.length : Int)) = true := decide_eq_true c14); clear c14
              obtain ⟨bq15, hbq15⟩ : ∃ b_ : Bool, b_ = (rdOf false t167 x23_1) := ⟨_, rfl⟩
              (replace H : (if bq15 = true then (if t171.size + (rdOf ByteArray.empty t164 x23_1).size ≤ 9223372036854775807 then ((merkle_Leaf.f (t171 ++ (rdOf ByteArray.empty t164 x23_1))).bind fun t173 => (if x9_1.length < 2513169434916 then (piece_Show.l0 k1 a0 a1 (x9_1 ++ [(⟨true, (⟨#[]⟩ : ByteArray), (⟨#[]⟩ : ByteArray), t173⟩ : S45)]) t167 t164 (t164.length : Int) (wrap64 (x23_1 + 1))) else (none))) else (none)) else (if x9_1.length < 2513169434916 then (piece_Show.l0 k1 a0 a1 (x9_1 ++ [(⟨false, t171, rdOf ByteArray.empty t164 x23_1, (⟨#[]⟩ : ByteArray)⟩ : S45)]) t167 t164 (t164.length : Int) (wrap64 (x23_1 + 1))) else (none))) = some r := by rw [← hbq15] at H; exact H); (have Nbq15 := Aside0.mk hbq15); clear hbq15
              by_cases c16 : bq15 = true
              · subst c16
                (have H1 : (if t171.size + (rdOf ByteArray.empty t164 x23_1).size ≤ 9223372036854775807 then ((merkle_Leaf.f (t171 ++ (rdOf ByteArray.empty t164 x23_1))).bind fun t173 => (if x9_1.length < 2513169434916 then (piece_Show.l0 k1 a0 a1 (x9_1 ++ [(⟨true, (⟨#[]⟩ : ByteArray), (⟨#[]⟩ : ByteArray), t173⟩ : S45)]) t167 t164 (t164.length : Int) (wrap64 (x23_1 + 1))) else (none))) else (none)) = some r := by rw [if_pos rfl] at H; exact H); clear H; (have H := H1); clear H1
                by_cases c17 : t171.size + (rdOf ByteArray.empty t164 x23_1).size ≤ 9223372036854775807
                · rw [if_pos c17] at H
                  (have c17b0 := eq_true c17); (have c17b1 : decide (t171.size + (rdOf ByteArray.empty t164 x23_1).size ≤ 9223372036854775807) = true := decide_eq_true c17); (try have c17b2 : (9223372036854775807 < t171.size + (rdOf ByteArray.empty t164 x23_1).size) = False := eq_false (Nat.not_lt.2 c17)); (replace H := Option.bind_eq_some_iff.mp H)
                  obtain ⟨t173, A180, H⟩ := H
                  (replace H : (if x9_1.length < 2513169434916 then (piece_Show.l0 k1 a0 a1 (x9_1 ++ [(⟨true, (⟨#[]⟩ : ByteArray), (⟨#[]⟩ : ByteArray), t173⟩ : S45)]) t167 t164 (t164.length : Int) (wrap64 (x23_1 + 1))) else (none)) = some r := H); (have A18 := Aside0.mk A180); clear A180
                  by_cases c19 : x9_1.length < 2513169434916
                  · rw [if_pos c19] at H
                    (have LMc19 := Aside0.mk c19); clear c19
                    obtain ⟨y174, hy174⟩ : ∃ y_ : List (S45), y_ = (x9_1 ++ [(⟨true, (⟨#[]⟩ : ByteArray), (⟨#[]⟩ : ByteArray), t173⟩ : S45)]) := ⟨_, rfl⟩
                    (replace H : (piece_Show.l0 k1 a0 a1 y174 t167 t164 (t164.length : Int) (wrap64 (x23_1 + 1))) = some r := by first | (rw [hy174]; with_reducible exact H) | (have H2_ := (Option.bind_some _ _).symm.trans H; rw [hy174]; with_reducible exact H2_) | (have H2_ := (Option.bind_some _ _).symm.trans H; with_reducible exact H2_) | with_reducible exact H | (rw [hy174]; exact H) | exact H); (have Ny174 := Aside0.mk hy174); clear hy174; (have H' := Aside0.mk H); clear H; (have p170 : 0 ≤ (x23_1 : Int) := of_decide_eq_true (by first | (with_reducible assumption) | assumption)); (have q170 : x23_1 < (t164.length : Int) := of_decide_eq_true (by first | (with_reducible assumption) | assumption))
                    obtain ⟨ad170, e170, hx170_0⟩ := Kd.at_string (Kd.R_reads' HO_21.out).2.2 x23_1 p170 q170
                    cases e170
                    (replace p170 := eq_true p170); (replace q170 := eq_true q170); (go_wp2_with (first | ((with_reducible refine gate_callee (f := 26) rfl ?_); refine goesL_ (some 31) rfl rfl Tryd.func26 (by kernel_rfl) rfl #[.string a0, .string a1, .int .i64 x23_1] rfl (by (try simp only [List.map_toArray, List.map_cons, List.map_nil]); first | done | rfl | (simp only [List.length_drop, List.length_take]; rfl)) ?_; (with_reducible refine (piece_Salt.calls a0 a1 x23_1 t171 _ (by first | ((repeat (first | exact HG_.out | apply GW.drewN | apply GW.drew | apply GW.alloc)); done) | exact GW.below HG_.out (by repeat (first | (with_reducible first | exact HB.out | apply below_alloc | apply pw_below_drewN | apply below_drew1) | exact HB.out))) (by have a_ := A13.out; (try simp only [← Nbq15.out] at a_); exact a_)).mono ?_); rintro e w20 ⟨rfl, hb⟩; refine ⟨_, rfl, ?_⟩; have n0_ := Aside0.mk (Kd.R_below (by (with_reducible repeat (first | apply Kd.R_alloc | apply Kd.R_drewN | apply Kd.R_drew)); exact HO_9.out) hb); have n1_ := Aside0.mk (Kd.R_below (by (with_reducible repeat (first | apply Kd.R_alloc | apply Kd.R_drewN | apply Kd.R_drew)); exact HO_11.out) hb); have n2_ := Aside0.mk (Kd.R_below (by (with_reducible repeat (first | apply Kd.R_alloc | apply Kd.R_drewN | apply Kd.R_drew)); exact HO_21.out) hb); have n3_ := Aside0.mk (below_step (by repeat (first | (with_reducible first | exact HB.out | apply below_alloc | apply pw_below_drewN | apply below_drew1) | exact HB.out)) hb); clear HO_9; clear HO_11; clear HO_21; clear HB; have HO_9 := n0_; have HO_11 := n1_; have HO_21 := n2_; have HB := n3_; clear n0_ n1_ n2_ n3_; (try clear hb); (try clear hb2); (try clear hk); (try clear hi); obtain ⟨Ao21, co21, eo21⟩ := Kd.R_slice HO_11.out; subst eo21; have p172 : 0 ≤ (x23_1 : Int) := of_decide_eq_true (by first | (with_reducible assumption) | assumption); have q172 : x23_1 < (t167.length : Int) := of_decide_eq_true (by first | (with_reducible assumption) | assumption); obtain ⟨ad172, e172, hx172_0⟩ := Kd.at_bool (Kd.R_reads' HO_11.out).2.2 x23_1 p172 q172; (try rw [← Nbq15.out] at hx172_0); cases e172; replace p172 := eq_true p172; replace q172 := eq_true q172) | ((with_reducible refine gate_callee (f := 56) rfl ?_); refine goesL_ (some 40) rfl rfl Tryd.func56 (by kernel_rfl) rfl #[.string (t171 ++ (rdOf ByteArray.empty t164 x23_1))] rfl (by (try simp only [List.map_toArray, List.map_cons, List.map_nil]); first | done | rfl | (simp only [List.length_drop, List.length_take]; rfl)) ?_; (with_reducible refine (merkle_Leaf.calls (t171 ++ (rdOf ByteArray.empty t164 x23_1)) t173 _ (by first | ((repeat (first | exact HG_.out | apply GW.drewN | apply GW.drew | apply GW.alloc)); done) | exact GW.below HG_.out (by repeat (first | (with_reducible first | exact HB.out | apply below_alloc | apply pw_below_drewN | apply below_drew1) | exact HB.out))) (by have a_ := A18.out; (try simp only [← Nbq15.out] at a_); exact a_)).mono ?_); rintro e w22 ⟨rfl, hb⟩; refine ⟨_, rfl, ?_⟩; have n0_ := Aside0.mk (Kd.R_below (by (with_reducible repeat (first | apply Kd.R_alloc | apply Kd.R_drewN | apply Kd.R_drew)); exact HO_9.out) hb); have n1_ := Aside0.mk (Kd.R_below (by (with_reducible repeat (first | apply Kd.R_alloc | apply Kd.R_drewN | apply Kd.R_drew)); exact HO_11.out) hb); have n2_ := Aside0.mk (Kd.R_below (by (with_reducible repeat (first | apply Kd.R_alloc | apply Kd.R_drewN | apply Kd.R_drew)); exact HO_21.out) hb); have n3_ := Aside0.mk (below_step (by repeat (first | (with_reducible first | exact HB.out | apply below_alloc | apply pw_below_drewN | apply below_drew1) | exact HB.out)) hb); clear HO_9; clear HO_11; clear HO_21; clear HB; have HO_9 := n0_; have HO_11 := n1_; have HO_21 := n2_; have HB := n3_; clear n0_ n1_ n2_ n3_; (try clear hb); (try clear hb2); (try clear hk); (try clear hi)) | ((with_reducible refine gate_builtin (b := .append) (xs := #[.tmp 36, .tmp 42]) rfl ?_); at_builtin; refine Kd.R_append k45 (w0 := w) w.heap.size rfl (.tmp 36) (.tmp 42) 39 45 (.agg #[(.bool false), (.string ⟨#[]⟩), (.string ⟨#[]⟩), (.string ⟨#[]⟩)]) 56 rfl Tryd.underlying39 info45 rfl (by decide) (by omega) u9 x9_1 (⟨true, (⟨#[]⟩ : ByteArray), (⟨#[]⟩ : ByteArray), t173⟩ : S45) [.bool true, .string (⟨#[]⟩ : ByteArray), .string (⟨#[]⟩ : ByteArray), .string t173] (fun _ => True) (fun _ => False) rfl rfl ?aP (fun _ hk => hk.elim) ?aF ?aO ?aB ?aS ?aL ?_; (case aP => exact k45_mkM _ _ _ (⟨true, (⟨#[]⟩ : ByteArray), (⟨#[]⟩ : ByteArray), t173⟩ : S45)); (case aB => exact (by repeat (first | (with_reducible first | exact HB.out | apply below_alloc | apply pw_below_drewN | apply below_drew1) | exact HB.out))); (case aF => exact (fun _ _ => trivial)); (case aO => exact (by (with_reducible repeat (first | apply Kd.R_alloc | apply Kd.R_drewN | apply Kd.R_drew)); exact HO_9.out)); (case aS => exact (below_size (by repeat (first | (with_reducible first | exact HB.out | apply below_alloc | apply pw_below_drewN | apply below_drew1) | exact HB.out)))); (case aL => have := LMc19.out; omega); intro v175 w23 ho hb hg hat; rw [← Ny174.out] at ho; have n0_ := Aside0.mk (Kd.R_over' (by (with_reducible repeat (first | apply Kd.R_alloc | apply Kd.R_drewN | apply Kd.R_drew)); exact HO_11.out) (Kd.R_typed (by (with_reducible repeat (first | apply Kd.R_alloc | apply Kd.R_drewN | apply Kd.R_drew)); exact HO_9.out)) (by decide) hg); have n1_ := Aside0.mk (Kd.R_over' (by (with_reducible repeat (first | apply Kd.R_alloc | apply Kd.R_drewN | apply Kd.R_drew)); exact HO_21.out) (Kd.R_typed (by (with_reducible repeat (first | apply Kd.R_alloc | apply Kd.R_drewN | apply Kd.R_drew)); exact HO_9.out)) (by decide) hg); have n2_ := Aside0.mk (hb); have n3_ := Aside0.mk (ho); clear HO_11; clear HO_21; clear HB; clear HO_9; have HO_11 := n0_; have HO_21 := n1_; have HB := n2_; have HO176 := n3_; clear n0_ n1_ n2_ n3_; clear ho hb hg hat))); (go_roundg k1)
                    case measure => have := HK1.out; omega
                    case rel => (try simp only [← Nbq15.out]); exact ⟨(y174), (wrap64 (x23_1 + 1)), (by first | rfl | (simp; done) | (simp [*]; done)), H', ⟨by have := HK1.out; omega⟩, ⟨by (with_reducible repeat (first | apply Kd.R_alloc | apply Kd.R_drewN | apply Kd.R_drew)); exact HO176.out⟩, ⟨by (with_reducible repeat (first | apply Kd.R_alloc | apply Kd.R_drewN | apply Kd.R_drew)); exact HO_11.out⟩, ⟨by (with_reducible repeat (first | apply Kd.R_alloc | apply Kd.R_drewN | apply Kd.R_drew)); exact HO_21.out⟩, ⟨by repeat (first | (with_reducible first | exact HB.out | apply below_alloc | apply pw_below_drewN | apply below_drew1) | exact HB.out)⟩⟩
                  · rw [if_neg c19] at H
                    (exact absurd H (by simp))
                · rw [if_neg c17] at H
                  (exact absurd H (by simp))
              · replace c16 := Bool.eq_false_iff.mpr c16
                (subst c16); (have H1 : (if x9_1.length < 2513169434916 then (piece_Show.l0 k1 a0 a1 (x9_1 ++ [(⟨false, t171, rdOf ByteArray.empty t164 x23_1, (⟨#[]⟩ : ByteArray)⟩ : S45)]) t167 t164 (t164.length : Int) (wrap64 (x23_1 + 1))) else (none)) = some r := by rw [if_neg (show ¬ (false = true) by decide)] at H; exact H); clear H; (have H := H1); clear H1
                by_cases c24 : x9_1.length < 2513169434916
                · rw [if_pos c24] at H
                  (have LMc24 := Aside0.mk c24); clear c24
                  obtain ⟨y177, hy177⟩ : ∃ y_ : List (S45), y_ = (x9_1 ++ [(⟨false, t171, rdOf ByteArray.empty t164 x23_1, (⟨#[]⟩ : ByteArray)⟩ : S45)]) := ⟨_, rfl⟩
                  (replace H : (piece_Show.l0 k1 a0 a1 y177 t167 t164 (t164.length : Int) (wrap64 (x23_1 + 1))) = some r := by first | (rw [hy177]; with_reducible exact H) | (have H2_ := (Option.bind_some _ _).symm.trans H; rw [hy177]; with_reducible exact H2_) | (have H2_ := (Option.bind_some _ _).symm.trans H; with_reducible exact H2_) | with_reducible exact H | (rw [hy177]; exact H) | exact H); (have Ny177 := Aside0.mk hy177); clear hy177; (have H' := Aside0.mk H); clear H; (have p170 : 0 ≤ (x23_1 : Int) := of_decide_eq_true (by first | (with_reducible assumption) | assumption)); (have q170 : x23_1 < (t164.length : Int) := of_decide_eq_true (by first | (with_reducible assumption) | assumption))
                  obtain ⟨ad170, e170, hx170_0⟩ := Kd.at_string (Kd.R_reads' HO_21.out).2.2 x23_1 p170 q170
                  cases e170
                  (replace p170 := eq_true p170); (replace q170 := eq_true q170); (go_wp2_with (first | ((with_reducible refine gate_callee (f := 26) rfl ?_); refine goesL_ (some 31) rfl rfl Tryd.func26 (by kernel_rfl) rfl #[.string a0, .string a1, .int .i64 x23_1] rfl (by (try simp only [List.map_toArray, List.map_cons, List.map_nil]); first | done | rfl | (simp only [List.length_drop, List.length_take]; rfl)) ?_; (with_reducible refine (piece_Salt.calls a0 a1 x23_1 t171 _ (by first | ((repeat (first | exact HG_.out | apply GW.drewN | apply GW.drew | apply GW.alloc)); done) | exact GW.below HG_.out (by repeat (first | (with_reducible first | exact HB.out | apply below_alloc | apply pw_below_drewN | apply below_drew1) | exact HB.out))) (by have a_ := A13.out; (try simp only [← Nbq15.out] at a_); exact a_)).mono ?_); rintro e w25 ⟨rfl, hb⟩; refine ⟨_, rfl, ?_⟩; have n0_ := Aside0.mk (Kd.R_below (by (with_reducible repeat (first | apply Kd.R_alloc | apply Kd.R_drewN | apply Kd.R_drew)); exact HO_9.out) hb); have n1_ := Aside0.mk (Kd.R_below (by (with_reducible repeat (first | apply Kd.R_alloc | apply Kd.R_drewN | apply Kd.R_drew)); exact HO_11.out) hb); have n2_ := Aside0.mk (Kd.R_below (by (with_reducible repeat (first | apply Kd.R_alloc | apply Kd.R_drewN | apply Kd.R_drew)); exact HO_21.out) hb); have n3_ := Aside0.mk (below_step (by repeat (first | (with_reducible first | exact HB.out | apply below_alloc | apply pw_below_drewN | apply below_drew1) | exact HB.out)) hb); clear HO_9; clear HO_11; clear HO_21; clear HB; have HO_9 := n0_; have HO_11 := n1_; have HO_21 := n2_; have HB := n3_; clear n0_ n1_ n2_ n3_; (try clear hb); (try clear hb2); (try clear hk); (try clear hi); obtain ⟨Ao26, co26, eo26⟩ := Kd.R_slice HO_11.out; subst eo26; have p172 : 0 ≤ (x23_1 : Int) := of_decide_eq_true (by first | (with_reducible assumption) | assumption); have q172 : x23_1 < (t167.length : Int) := of_decide_eq_true (by first | (with_reducible assumption) | assumption); obtain ⟨ad172, e172, hx172_0⟩ := Kd.at_bool (Kd.R_reads' HO_11.out).2.2 x23_1 p172 q172; (try rw [← Nbq15.out] at hx172_0); cases e172; replace p172 := eq_true p172; replace q172 := eq_true q172) | ((with_reducible refine gate_builtin (b := .append) (xs := #[.tmp 44, .tmp 48]) rfl ?_); at_builtin; refine Kd.R_append k45 (w0 := w) w.heap.size rfl (.tmp 44) (.tmp 48) 39 45 (.agg #[(.bool false), (.string ⟨#[]⟩), (.string ⟨#[]⟩), (.string ⟨#[]⟩)]) 56 rfl Tryd.underlying39 info45 rfl (by decide) (by omega) u9 x9_1 (⟨false, t171, rdOf ByteArray.empty t164 x23_1, (⟨#[]⟩ : ByteArray)⟩ : S45) [.bool false, .string t171, .string (rdOf ByteArray.empty t164 x23_1), .string (⟨#[]⟩ : ByteArray)] (fun _ => True) (fun _ => False) rfl rfl ?aP (fun _ hk => hk.elim) ?aF ?aO ?aB ?aS ?aL ?_; (case aP => exact k45_mkM _ _ _ (⟨false, t171, rdOf ByteArray.empty t164 x23_1, (⟨#[]⟩ : ByteArray)⟩ : S45)); (case aB => exact (by repeat (first | (with_reducible first | exact HB.out | apply below_alloc | apply pw_below_drewN | apply below_drew1) | exact HB.out))); (case aF => exact (fun _ _ => trivial)); (case aO => exact (by (with_reducible repeat (first | apply Kd.R_alloc | apply Kd.R_drewN | apply Kd.R_drew)); exact HO_9.out)); (case aS => exact (below_size (by repeat (first | (with_reducible first | exact HB.out | apply below_alloc | apply pw_below_drewN | apply below_drew1) | exact HB.out)))); (case aL => have := LMc24.out; omega); intro v178 w27 ho hb hg hat; rw [← Ny177.out] at ho; have n0_ := Aside0.mk (Kd.R_over' (by (with_reducible repeat (first | apply Kd.R_alloc | apply Kd.R_drewN | apply Kd.R_drew)); exact HO_11.out) (Kd.R_typed (by (with_reducible repeat (first | apply Kd.R_alloc | apply Kd.R_drewN | apply Kd.R_drew)); exact HO_9.out)) (by decide) hg); have n1_ := Aside0.mk (Kd.R_over' (by (with_reducible repeat (first | apply Kd.R_alloc | apply Kd.R_drewN | apply Kd.R_drew)); exact HO_21.out) (Kd.R_typed (by (with_reducible repeat (first | apply Kd.R_alloc | apply Kd.R_drewN | apply Kd.R_drew)); exact HO_9.out)) (by decide) hg); have n2_ := Aside0.mk (hb); have n3_ := Aside0.mk (ho); clear HO_11; clear HO_21; clear HB; clear HO_9; have HO_11 := n0_; have HO_21 := n1_; have HB := n2_; have HO179 := n3_; clear n0_ n1_ n2_ n3_; clear ho hb hg hat))); (go_roundg k1)
                  case measure => have := HK1.out; omega
                  case rel => (try simp only [← Nbq15.out]); exact ⟨(y177), (wrap64 (x23_1 + 1)), (by first | rfl | (simp; done) | (simp [*]; done)), H', ⟨by have := HK1.out; omega⟩, ⟨by (with_reducible repeat (first | apply Kd.R_alloc | apply Kd.R_drewN | apply Kd.R_drew)); exact HO179.out⟩, ⟨by (with_reducible repeat (first | apply Kd.R_alloc | apply Kd.R_drewN | apply Kd.R_drew)); exact HO_11.out⟩, ⟨by (with_reducible repeat (first | apply Kd.R_alloc | apply Kd.R_drewN | apply Kd.R_drew)); exact HO_21.out⟩, ⟨by repeat (first | (with_reducible first | exact HB.out | apply below_alloc | apply pw_below_drewN | apply below_drew1) | exact HB.out)⟩⟩
                · rw [if_neg c24] at H
                  (exact absurd H (by simp))
            · rw [if_neg c14] at H
              (exact absurd H (by simp))
          · rw [if_neg c12] at H
            (exact absurd H (by simp))
        · rw [if_neg c11] at H
          (exact absurd H (by simp))
      · rw [if_neg c10] at H
        (have c10b0 : decide (x23_1 < (t164.length : Int)) = false := decide_eq_false c10); clear c10
        obtain rfl := Option.some.inj H
        go_wp2; (go_ret); (exact ⟨_, by first | rfl | (simp [errW_none, errW_some] <;> rfl) | (simp [*, errW_none, errW_some] <;> rfl), by (with_reducible repeat (first | apply Kd.R_alloc | apply Kd.R_drewN | apply Kd.R_drew)); exact HO_9.out, by repeat (first | (with_reducible first | exact HB.out | apply below_alloc | apply pw_below_drewN | apply below_drew1) | exact HB.out)⟩)

/-! ### piece_Check: function 25 -/
mutual
def piece_Check.l0 : Nat → ByteArray → List ByteArray → List (S45) → Int → Int → Option (Bool)
  | 0, _, _, _, _, _ => none
  | k + 1, x0, x5, x8, x9, x10 => if x10 < x9 then (if 0 ≤ x10 then (if x10 < (x8.length : Int) then (if (rd_T45 x8 x10).f0 = true then (if (((rd_T45 x8 x10).f3).size : Int) = 32 then (if ((rd_T45 x8 x10).f1).toList = ([] : List UInt8) then (piece_Check.j1 k x0 x5 x8 x9 x10 (((rd_T45 x8 x10).f2).toList == ([] : List UInt8)) ((rd_T45 x8 x10).f0) ((rd_T45 x8 x10).f1) ((rd_T45 x8 x10).f2) ((rd_T45 x8 x10).f3)) else (piece_Check.j1 k x0 x5 x8 x9 x10 false ((rd_T45 x8 x10).f0) ((rd_T45 x8 x10).f1) ((rd_T45 x8 x10).f2) ((rd_T45 x8 x10).f3))) else (piece_Check.j1 k x0 x5 x8 x9 x10 false ((rd_T45 x8 x10).f0) ((rd_T45 x8 x10).f1) ((rd_T45 x8 x10).f2) ((rd_T45 x8 x10).f3))) else (piece_Check.j1 k x0 x5 x8 x9 x10 false ((rd_T45 x8 x10).f0) ((rd_T45 x8 x10).f1) ((rd_T45 x8 x10).f2) ((rd_T45 x8 x10).f3))) else (none)) else (none)) else ((piece_commit.f k x5).bind fun t180 => (some (t180.toList == x0.toList)))
def piece_Check.j1 : Nat → ByteArray → List ByteArray → List (S45) → Int → Int → Bool → Bool → ByteArray → ByteArray → ByteArray → Option (Bool)
  | 0, _, _, _, _, _, _, _, _, _, _ => none
  | k + 1, x0, x5, x8, x9, x10, x14, x183000, x183001, x183002, x183003 => if x14 = true then (if x5.length < 8796093022208 then (piece_Check.l0 k x0 (x5 ++ [x183003]) x8 x9 (wrap64 (x10 + 1))) else (none)) else (if x183000 = true then (some false) else (if (x183001.size : Int) = 16 then (if x183003.toList = ([] : List UInt8) then (if x183001.size + x183002.size ≤ 9223372036854775807 then ((merkle_Leaf.f (x183001 ++ x183002)).bind fun t186 => (if x5.length < 8796093022208 then (piece_Check.l0 k x0 (x5 ++ [t186]) x8 x9 (wrap64 (x10 + 1))) else (none))) else (none)) else (some false)) else (some false)))
end
def piece_Check.f (k : Nat) (a0 : ByteArray) (l1 : List (S45)) : Option (Bool) := piece_Check.l0 k a0 ([] : List ByteArray) l1 (l1.length : Int) 0
theorem piece_Check.mono_l : ∀ k, (∀ y0 y1 y2 y3 y4, LeO (piece_Check.l0 k y0 y1 y2 y3 y4) (piece_Check.l0 (k + 1) y0 y1 y2 y3 y4)) ∧ (∀ y0 y1 y2 y3 y4 y5 y6 y7 y8 y9, LeO (piece_Check.j1 k y0 y1 y2 y3 y4 y5 y6 y7 y8 y9) (piece_Check.j1 (k + 1) y0 y1 y2 y3 y4 y5 y6 y7 y8 y9))
  | 0 => ⟨fun _ _ _ _ _ r h => by simp [piece_Check.l0] at h, fun _ _ _ _ _ _ _ _ _ _ r h => by simp [piece_Check.j1] at h⟩
  | k + 1 => by
    obtain ⟨ih0, ih1⟩ := piece_Check.mono_l k
    refine ⟨?_, ?_⟩
    · intro y0 y1 y2 y3 y4
      unfold piece_Check.l0
      repeat' first
      | (with_reducible exact ih0 _ _ _ _ _)
      | (with_reducible exact ih1 _ _ _ _ _ _ _ _ _ _)
      | (with_reducible exact piece_commit.mono _ _)
      | (with_reducible exact LeO.refl _)
      | (with_reducible exact LeO.none _)
      | (with_reducible refine LeO.ite ?_ ?_)
      | (with_reducible refine LeO.bind ?_ (fun _ => ?_))
      | exact ih0 _ _ _ _ _
      | exact ih1 _ _ _ _ _ _ _ _ _ _
      | exact piece_commit.mono _ _
      | exact LeO.none _
      | refine LeO.ite ?_ ?_
      | refine LeO.bind ?_ (fun _ => ?_)
    · intro y0 y1 y2 y3 y4 y5 y6 y7 y8 y9
      unfold piece_Check.j1
      repeat' first
      | (with_reducible exact ih0 _ _ _ _ _)
      | (with_reducible exact ih1 _ _ _ _ _ _ _ _ _ _)
      | (with_reducible exact piece_commit.mono _ _)
      | (with_reducible exact LeO.refl _)
      | (with_reducible exact LeO.none _)
      | (with_reducible refine LeO.ite ?_ ?_)
      | (with_reducible refine LeO.bind ?_ (fun _ => ?_))
      | exact ih0 _ _ _ _ _
      | exact ih1 _ _ _ _ _ _ _ _ _ _
      | exact piece_commit.mono _ _
      | exact LeO.none _
      | refine LeO.ite ?_ ?_
      | refine LeO.bind ?_ (fun _ => ?_)
theorem piece_Check.mono : ∀ a0 a1 k, LeO (piece_Check.f k a0 a1) (piece_Check.f (k + 1) a0 a1) := by
  intro a0 a1 k
  obtain ⟨ih0, ih1⟩ := piece_Check.mono_l k
  unfold piece_Check.f
  repeat' first
      | (with_reducible exact ih0 _ _ _ _ _)
      | (with_reducible exact ih1 _ _ _ _ _ _ _ _ _ _)
      | (with_reducible exact piece_commit.mono _ _)
      | (with_reducible exact LeO.refl _)
      | (with_reducible exact LeO.none _)
      | (with_reducible refine LeO.ite ?_ ?_)
      | (with_reducible refine LeO.bind ?_ (fun _ => ?_))
      | exact ih0 _ _ _ _ _
      | exact ih1 _ _ _ _ _ _ _ _ _ _
      | exact piece_commit.mono _ _
      | exact LeO.none _
      | refine LeO.ite ?_ ?_
      | refine LeO.bind ?_ (fun _ => ?_)
set_option maxHeartbeats 8000000 in
set_option maxRecDepth 100000 in
theorem piece_Check.calls (k : Nat) (a0 : ByteArray) (A1 : Option Addr) (c1 : Nat) (l1 : List (S45)) (r : Bool) (w : World) (hG : GW w) (hr1 : Kd.C k45 w A1 l1.length l1) (hc1 : l1.length ≤ c1) (h : piece_Check.f k a0 l1 = some r) :
    Calls Tryd.prog 25 #[.string a0, .slice A1 l1.length c1] w fun e w' => e = .returned (.bool r) ∧ Below w.heap.size w w' := by
  (have HG_ := Aside0.mk hG); clear hG; (have hu45 := Tryd.underlying45); (have HR1 := Aside0.mk hr1); (have HC1 := Aside0.mk hc1); clear hr1 hc1; (have HB := Aside0.mk (Below.refl w.heap.size w)); (have H : (piece_Check.l0 k a0 ([] : List ByteArray) l1 (l1.length : Int) 0) = some r := h); clear h; (have H' := Aside0.mk H); clear H; (go_enter Tryd.func25, Tryd.ntmps25); go_wp2; (go_loopg [5, 10] k (fun kq v5 v10 w' => ∃ (x5_1 : List ByteArray) (x10_1 : Int), v10 = .int .i64 x10_1 ∧ Aside0 (piece_Check.l0 kq a0 x5_1 l1 (l1.length : Int) x10_1 = some r) ∧ Aside0 (kq ≤ k) ∧ Aside0 (Kd.R Kd.string 9 w' w.heap.size (fun _ => True) v5 x5_1) ∧ Aside0 (Below w.heap.size w w')))
  case atStart => exact ⟨(([] : List ByteArray)), (0), (by first | rfl | (simp; done) | (simp [*]; done)), H', ⟨Nat.le_refl _⟩, ⟨by first | exact Kd.R_nil _ _ _ _ _ | exact Kd.N_nil _ _ _ _ _ | exact Kd.V_nil _ _ _ _ _ | exact Kd.Q_nil _ _ _ _ _ | exact Kd.S_nil _ _ _ _ _⟩, ⟨by repeat (first | (with_reducible first | exact HB.out | apply below_alloc | apply pw_below_drewN | apply below_drew1) | exact HB.out)⟩⟩
  case round =>
    (clear H'); (try clear c1); (try clear c2); (try clear p2)
    obtain ⟨x5_1, x10_1, rfl, HA, HK1, HO_5, HB⟩ := hrel
    cases gk with
    | zero => exact absurd HA.out (by simp [piece_Check.l0])
    | succ k1 =>
      (have H := HA.out); clear HA; (simp only [piece_Check.l0] at H)
      by_cases c3 : x10_1 < (l1.length : Int)
      · rw [if_pos c3] at H
        (have c3b0 : decide (x10_1 < (l1.length : Int)) = true := decide_eq_true c3); clear c3
        by_cases c4 : 0 ≤ x10_1
        · rw [if_pos c4] at H
          (have c4b0 : decide (0 ≤ x10_1) = true := decide_eq_true c4); clear c4
          by_cases c5 : x10_1 < (l1.length : Int)
          · rw [if_pos c5] at H
            (have c5b0 : decide (x10_1 < (l1.length : Int)) = true := decide_eq_true c5); clear c5; (have HC6 := Aside0.mk H); clear H; (have p181 : 0 ≤ (x10_1 : Int) := of_decide_eq_true (by first | (with_reducible assumption) | assumption)); (have q181 : x10_1 < (l1.length : Int) := of_decide_eq_true (by first | (with_reducible assumption) | assumption))
            obtain ⟨ad181, e181, hx181_0, hx181_1, hx181_2, hx181_3⟩ := at_T45 HR1.out x10_1 p181 q181
            cases e181
            (replace hx181_0 := (HB.out.cell (World.block_lt_of_cell? w _ hx181_0)).trans hx181_0); (replace hx181_1 := (HB.out.cell (World.block_lt_of_cell? w _ hx181_1)).trans hx181_1); (replace hx181_2 := (HB.out.cell (World.block_lt_of_cell? w _ hx181_2)).trans hx181_2); (replace hx181_3 := (HB.out.cell (World.block_lt_of_cell? w _ hx181_3)).trans hx181_3); (replace p181 := eq_true p181); (replace q181 := eq_true q181); (go_upto_region 6 with (first | ((with_reducible refine gate_dst (N := 7) rfl ?_); (try (refine gate_guard (by rfl) ?_; dsimp only)); refine box_event ?hg (N := 7) ?hd (cs := #[.bool false, .string (⟨#[]⟩ : ByteArray), .string (⟨#[]⟩ : ByteArray), .string (⟨#[]⟩ : ByteArray)]) (t := 45) ?hr ?_; (case hd => rfl); (case hg => rfl); (case hr => first | (go_simp; done) | (go_simp; rfl)); intro gb182 hg w7 hbox hb; have n0_ := Aside0.mk (Kd.R_below (by (with_reducible repeat (first | apply Kd.R_alloc | apply Kd.R_drewN | apply Kd.R_drew)); exact HO_5.out) hb); have n1_ := Aside0.mk (below_step (by repeat (first | (with_reducible first | exact HB.out | apply below_alloc | apply pw_below_drewN | apply below_drew1) | exact HB.out)) hb); have n2_ := Aside0.mk (hbox); have n3_ := Aside0.mk ((by rw [hg]; exact (below_size (by repeat (first | (with_reducible first | exact HB.out | apply below_alloc | apply pw_below_drewN | apply below_drew1) | exact HB.out))) : w.heap.size ≤ gb182)); have n4_ := Aside0.mk ((by rw [hg]; exact (below_size (by repeat (first | (with_reducible first | exact HB.out | apply below_alloc | apply pw_below_drewN | apply below_drew1) | exact HB.out))) : w.heap.size ≤ gb182)); clear HO_5; clear HB; have HO_5 := n0_; have HB := n1_; have BK182 := n2_; have GW182 := n3_; have GE182 := n4_; clear n0_ n1_ n2_ n3_ n4_; clear hb hbox hg; have hcz8_0 : w7.cell? ⟨gb182, 0, none⟩ = some (.bool false) := (blk_cell BK182.out 0).trans rfl; have hcz8_1 : w7.cell? ⟨gb182, 1, none⟩ = some (.string (⟨#[]⟩ : ByteArray)) := (blk_cell BK182.out 1).trans rfl; have hcz8_2 : w7.cell? ⟨gb182, 2, none⟩ = some (.string (⟨#[]⟩ : ByteArray)) := (blk_cell BK182.out 2).trans rfl; have hcz8_3 : w7.cell? ⟨gb182, 3, none⟩ = some (.string (⟨#[]⟩ : ByteArray)) := (blk_cell BK182.out 3).trans rfl; have hfz8_0 := blk_frozen BK182.out 0; have hfz8_1 := blk_frozen BK182.out 1; have hfz8_2 := blk_frozen BK182.out 2; have hfz8_3 := blk_frozen BK182.out 3))); (try simp only [Act.put, sqArr5_, sqBrr5_, sqCrr5_])
            go_cut [14] (fun v14 wc => ∃ (kq : Nat) (x14_5 : Bool), v14 = .bool x14_5 ∧ Aside0 (piece_Check.j1 kq a0 x5_1 l1 (l1.length : Int) x10_1 x14_5 ((rd_T45 l1 x10_1).f0) ((rd_T45 l1 x10_1).f1) ((rd_T45 l1 x10_1).f2) ((rd_T45 l1 x10_1).f3) = some r) ∧ Aside0 (kq ≤ k1) ∧ Aside0 (Kd.R Kd.string 9 wc w.heap.size (fun _ => True) u5 x5_1) ∧ Aside0 (wc.heap[gb182]? = some (.cells #[.bool ((rd_T45 l1 x10_1).f0), .string ((rd_T45 l1 x10_1).f1), .string ((rd_T45 l1 x10_1).f2), .string ((rd_T45 l1 x10_1).f3)] 45 (0, 0))) ∧ Aside0 (Below w.heap.size w wc))
            case first =>
              (have H := HC6.out); clear HC6
              obtain ⟨bq9, hbq9⟩ : ∃ b_ : Bool, b_ = ((rd_T45 l1 x10_1).f0) := ⟨_, rfl⟩
              (replace H : (if bq9 = true then (if (((rd_T45 l1 x10_1).f3).size : Int) = 32 then (if ((rd_T45 l1 x10_1).f1).toList = ([] : List UInt8) then (piece_Check.j1 k1 a0 x5_1 l1 (l1.length : Int) x10_1 (((rd_T45 l1 x10_1).f2).toList == ([] : List UInt8)) bq9 ((rd_T45 l1 x10_1).f1) ((rd_T45 l1 x10_1).f2) ((rd_T45 l1 x10_1).f3)) else (piece_Check.j1 k1 a0 x5_1 l1 (l1.length : Int) x10_1 false bq9 ((rd_T45 l1 x10_1).f1) ((rd_T45 l1 x10_1).f2) ((rd_T45 l1 x10_1).f3))) else (piece_Check.j1 k1 a0 x5_1 l1 (l1.length : Int) x10_1 false bq9 ((rd_T45 l1 x10_1).f1) ((rd_T45 l1 x10_1).f2) ((rd_T45 l1 x10_1).f3))) else (piece_Check.j1 k1 a0 x5_1 l1 (l1.length : Int) x10_1 false bq9 ((rd_T45 l1 x10_1).f1) ((rd_T45 l1 x10_1).f2) ((rd_T45 l1 x10_1).f3))) = some r := by rw [← hbq9] at H; exact H); (have Nbq9 := Aside0.mk hbq9); clear hbq9; (try rw [← Nbq9.out])
              by_cases c10 : bq9 = true
              · subst c10
                (have H1 : (if (((rd_T45 l1 x10_1).f3).size : Int) = 32 then (if ((rd_T45 l1 x10_1).f1).toList = ([] : List UInt8) then (piece_Check.j1 k1 a0 x5_1 l1 (l1.length : Int) x10_1 (((rd_T45 l1 x10_1).f2).toList == ([] : List UInt8)) true ((rd_T45 l1 x10_1).f1) ((rd_T45 l1 x10_1).f2) ((rd_T45 l1 x10_1).f3)) else (piece_Check.j1 k1 a0 x5_1 l1 (l1.length : Int) x10_1 false true ((rd_T45 l1 x10_1).f1) ((rd_T45 l1 x10_1).f2) ((rd_T45 l1 x10_1).f3))) else (piece_Check.j1 k1 a0 x5_1 l1 (l1.length : Int) x10_1 false true ((rd_T45 l1 x10_1).f1) ((rd_T45 l1 x10_1).f2) ((rd_T45 l1 x10_1).f3))) = some r := by rw [if_pos rfl] at H; exact H); clear H; (have H := H1); clear H1
                by_cases c11 : (((rd_T45 l1 x10_1).f3).size : Int) = 32
                · rw [if_pos c11] at H
                  (have c11b0 : ((((rd_T45 l1 x10_1).f3).size : Int) == 32) = true := beq_iff_eq.mpr c11); (have c11b1 : ((((rd_T45 l1 x10_1).f3).size : Int) != 32) = false := bne_eq_false_iff_eq.mpr c11); clear c11
                  by_cases c12 : ((rd_T45 l1 x10_1).f1).toList = ([] : List UInt8)
                  · rw [if_pos c12] at H
                    (have c12b0 : (((rd_T45 l1 x10_1).f1).toList == ([] : List UInt8)) = true := beq_iff_eq.mpr c12); (have c12b1 : (((rd_T45 l1 x10_1).f1).toList != ([] : List UInt8)) = false := bne_eq_false_iff_eq.mpr c12); clear c12; (have H' := Aside0.mk H); clear H; (have hcz13_0 : w7.cell? ⟨gb182, 0, none⟩ = some (.bool false) := (blk_cell BK182.out 0).trans rfl); (have hcz13_1 : w7.cell? ⟨gb182, 1, none⟩ = some (.string (⟨#[]⟩ : ByteArray)) := (blk_cell BK182.out 1).trans rfl); (have hcz13_2 : w7.cell? ⟨gb182, 2, none⟩ = some (.string (⟨#[]⟩ : ByteArray)) := (blk_cell BK182.out 2).trans rfl); (have hcz13_3 : w7.cell? ⟨gb182, 3, none⟩ = some (.string (⟨#[]⟩ : ByteArray)) := (blk_cell BK182.out 3).trans rfl); (have hfz13_0 := blk_frozen BK182.out 0); (have hfz13_1 := blk_frozen BK182.out 1); (have hfz13_2 := blk_frozen BK182.out 2); (have hfz13_3 := blk_frozen BK182.out 3); go_wp2; (go_meet)
                    case rel => (try simp only [← Nbq9.out]); exact ⟨_, ((((rd_T45 l1 x10_1).f2).toList == ([] : List UInt8))), (by first | rfl | (simp; done) | (simp [*]; done)), H', ⟨by have := HK1.out; first | omega | exact Nat.le_refl _⟩, ⟨by (with_reducible repeat (first | apply Kd.R_alloc | apply Kd.R_drewN | apply Kd.R_drew)); exact Kd.R_mono (Kd.R_far (p := ⟨gb182, 3, none⟩) (Kd.R_far (p := ⟨gb182, 2, none⟩) (Kd.R_far (p := ⟨gb182, 1, none⟩) (Kd.R_far (p := ⟨gb182, 0, none⟩) (Kd.R_types HO_5.out BK182.out (by decide)) (fun _ hk => hk.2) (.bool (true))) (fun _ hk => hk.2) (.string ((rd_T45 l1 x10_1).f1))) (fun _ hk => hk.2) (.string ((rd_T45 l1 x10_1).f2))) (fun _ hk => hk.2) (.string ((rd_T45 l1 x10_1).f3))) (fun _ hk => trivial)⟩, ⟨by (with_reducible repeat (first | refine blk_drewN ?_ _ | refine blk_drew ?_ | refine blk_alloc ?_ _)); refine blk_put (cs := #[.bool (true), .string ((rd_T45 l1 x10_1).f1), .string ((rd_T45 l1 x10_1).f2), .string (⟨#[]⟩ : ByteArray)]) ?_ 3 _ rfl; (with_reducible repeat (first | refine blk_drewN ?_ _ | refine blk_drew ?_ | refine blk_alloc ?_ _)); refine blk_put (cs := #[.bool (true), .string ((rd_T45 l1 x10_1).f1), .string (⟨#[]⟩ : ByteArray), .string (⟨#[]⟩ : ByteArray)]) ?_ 2 _ rfl; (with_reducible repeat (first | refine blk_drewN ?_ _ | refine blk_drew ?_ | refine blk_alloc ?_ _)); refine blk_put (cs := #[.bool (true), .string (⟨#[]⟩ : ByteArray), .string (⟨#[]⟩ : ByteArray), .string (⟨#[]⟩ : ByteArray)]) ?_ 1 _ rfl; (with_reducible repeat (first | refine blk_drewN ?_ _ | refine blk_drew ?_ | refine blk_alloc ?_ _)); refine blk_put (cs := #[.bool false, .string (⟨#[]⟩ : ByteArray), .string (⟨#[]⟩ : ByteArray), .string (⟨#[]⟩ : ByteArray)]) ?_ 0 _ rfl; (with_reducible repeat (first | refine blk_drewN ?_ _ | refine blk_drew ?_ | refine blk_alloc ?_ _)); exact BK182.out⟩, ⟨by repeat (first | (with_reducible first | exact HB.out | apply below_alloc | apply pw_below_drewN | apply below_drew1 | refine below_set ?_ GE182.out) | exact HB.out)⟩⟩
                  · rw [if_neg c12] at H
                    (have c12b0 : (((rd_T45 l1 x10_1).f1).toList == ([] : List UInt8)) = false := beq_eq_false_iff_ne.mpr c12); (have c12b1 : (((rd_T45 l1 x10_1).f1).toList != ([] : List UInt8)) = true := bne_iff_ne.mpr c12); (have H' := Aside0.mk H); clear H; (have hcz14_0 : w7.cell? ⟨gb182, 0, none⟩ = some (.bool false) := (blk_cell BK182.out 0).trans rfl); (have hcz14_1 : w7.cell? ⟨gb182, 1, none⟩ = some (.string (⟨#[]⟩ : ByteArray)) := (blk_cell BK182.out 1).trans rfl); (have hcz14_2 : w7.cell? ⟨gb182, 2, none⟩ = some (.string (⟨#[]⟩ : ByteArray)) := (blk_cell BK182.out 2).trans rfl); (have hcz14_3 : w7.cell? ⟨gb182, 3, none⟩ = some (.string (⟨#[]⟩ : ByteArray)) := (blk_cell BK182.out 3).trans rfl); (have hfz14_0 := blk_frozen BK182.out 0); (have hfz14_1 := blk_frozen BK182.out 1); (have hfz14_2 := blk_frozen BK182.out 2); (have hfz14_3 := blk_frozen BK182.out 3); go_wp2; (go_meet)
                    case rel => (try simp only [← Nbq9.out]); exact ⟨_, (false), (by first | rfl | (simp; done) | (simp [*]; done)), H', ⟨by have := HK1.out; first | omega | exact Nat.le_refl _⟩, ⟨by (with_reducible repeat (first | apply Kd.R_alloc | apply Kd.R_drewN | apply Kd.R_drew)); exact Kd.R_mono (Kd.R_far (p := ⟨gb182, 3, none⟩) (Kd.R_far (p := ⟨gb182, 2, none⟩) (Kd.R_far (p := ⟨gb182, 1, none⟩) (Kd.R_far (p := ⟨gb182, 0, none⟩) (Kd.R_types HO_5.out BK182.out (by decide)) (fun _ hk => hk.2) (.bool (true))) (fun _ hk => hk.2) (.string ((rd_T45 l1 x10_1).f1))) (fun _ hk => hk.2) (.string ((rd_T45 l1 x10_1).f2))) (fun _ hk => hk.2) (.string ((rd_T45 l1 x10_1).f3))) (fun _ hk => trivial)⟩, ⟨by (with_reducible repeat (first | refine blk_drewN ?_ _ | refine blk_drew ?_ | refine blk_alloc ?_ _)); refine blk_put (cs := #[.bool (true), .string ((rd_T45 l1 x10_1).f1), .string ((rd_T45 l1 x10_1).f2), .string (⟨#[]⟩ : ByteArray)]) ?_ 3 _ rfl; (with_reducible repeat (first | refine blk_drewN ?_ _ | refine blk_drew ?_ | refine blk_alloc ?_ _)); refine blk_put (cs := #[.bool (true), .string ((rd_T45 l1 x10_1).f1), .string (⟨#[]⟩ : ByteArray), .string (⟨#[]⟩ : ByteArray)]) ?_ 2 _ rfl; (with_reducible repeat (first | refine blk_drewN ?_ _ | refine blk_drew ?_ | refine blk_alloc ?_ _)); refine blk_put (cs := #[.bool (true), .string (⟨#[]⟩ : ByteArray), .string (⟨#[]⟩ : ByteArray), .string (⟨#[]⟩ : ByteArray)]) ?_ 1 _ rfl; (with_reducible repeat (first | refine blk_drewN ?_ _ | refine blk_drew ?_ | refine blk_alloc ?_ _)); refine blk_put (cs := #[.bool false, .string (⟨#[]⟩ : ByteArray), .string (⟨#[]⟩ : ByteArray), .string (⟨#[]⟩ : ByteArray)]) ?_ 0 _ rfl; (with_reducible repeat (first | refine blk_drewN ?_ _ | refine blk_drew ?_ | refine blk_alloc ?_ _)); exact BK182.out⟩, ⟨by repeat (first | (with_reducible first | exact HB.out | apply below_alloc | apply pw_below_drewN | apply below_drew1 | refine below_set ?_ GE182.out) | exact HB.out)⟩⟩
                · rw [if_neg c11] at H
                  (have c11b0 : ((((rd_T45 l1 x10_1).f3).size : Int) == 32) = false := beq_eq_false_iff_ne.mpr c11); (have c11b1 : ((((rd_T45 l1 x10_1).f3).size : Int) != 32) = true := bne_iff_ne.mpr c11); (have H' := Aside0.mk H); clear H; (have hcz15_0 : w7.cell? ⟨gb182, 0, none⟩ = some (.bool false) := (blk_cell BK182.out 0).trans rfl); (have hcz15_1 : w7.cell? ⟨gb182, 1, none⟩ = some (.string (⟨#[]⟩ : ByteArray)) := (blk_cell BK182.out 1).trans rfl); (have hcz15_2 : w7.cell? ⟨gb182, 2, none⟩ = some (.string (⟨#[]⟩ : ByteArray)) := (blk_cell BK182.out 2).trans rfl); (have hcz15_3 : w7.cell? ⟨gb182, 3, none⟩ = some (.string (⟨#[]⟩ : ByteArray)) := (blk_cell BK182.out 3).trans rfl); (have hfz15_0 := blk_frozen BK182.out 0); (have hfz15_1 := blk_frozen BK182.out 1); (have hfz15_2 := blk_frozen BK182.out 2); (have hfz15_3 := blk_frozen BK182.out 3); go_wp2; (go_meet)
                  case rel => (try simp only [← Nbq9.out]); exact ⟨_, (false), (by first | rfl | (simp; done) | (simp [*]; done)), H', ⟨by have := HK1.out; first | omega | exact Nat.le_refl _⟩, ⟨by (with_reducible repeat (first | apply Kd.R_alloc | apply Kd.R_drewN | apply Kd.R_drew)); exact Kd.R_mono (Kd.R_far (p := ⟨gb182, 3, none⟩) (Kd.R_far (p := ⟨gb182, 2, none⟩) (Kd.R_far (p := ⟨gb182, 1, none⟩) (Kd.R_far (p := ⟨gb182, 0, none⟩) (Kd.R_types HO_5.out BK182.out (by decide)) (fun _ hk => hk.2) (.bool (true))) (fun _ hk => hk.2) (.string ((rd_T45 l1 x10_1).f1))) (fun _ hk => hk.2) (.string ((rd_T45 l1 x10_1).f2))) (fun _ hk => hk.2) (.string ((rd_T45 l1 x10_1).f3))) (fun _ hk => trivial)⟩, ⟨by (with_reducible repeat (first | refine blk_drewN ?_ _ | refine blk_drew ?_ | refine blk_alloc ?_ _)); refine blk_put (cs := #[.bool (true), .string ((rd_T45 l1 x10_1).f1), .string ((rd_T45 l1 x10_1).f2), .string (⟨#[]⟩ : ByteArray)]) ?_ 3 _ rfl; (with_reducible repeat (first | refine blk_drewN ?_ _ | refine blk_drew ?_ | refine blk_alloc ?_ _)); refine blk_put (cs := #[.bool (true), .string ((rd_T45 l1 x10_1).f1), .string (⟨#[]⟩ : ByteArray), .string (⟨#[]⟩ : ByteArray)]) ?_ 2 _ rfl; (with_reducible repeat (first | refine blk_drewN ?_ _ | refine blk_drew ?_ | refine blk_alloc ?_ _)); refine blk_put (cs := #[.bool (true), .string (⟨#[]⟩ : ByteArray), .string (⟨#[]⟩ : ByteArray), .string (⟨#[]⟩ : ByteArray)]) ?_ 1 _ rfl; (with_reducible repeat (first | refine blk_drewN ?_ _ | refine blk_drew ?_ | refine blk_alloc ?_ _)); refine blk_put (cs := #[.bool false, .string (⟨#[]⟩ : ByteArray), .string (⟨#[]⟩ : ByteArray), .string (⟨#[]⟩ : ByteArray)]) ?_ 0 _ rfl; (with_reducible repeat (first | refine blk_drewN ?_ _ | refine blk_drew ?_ | refine blk_alloc ?_ _)); exact BK182.out⟩, ⟨by repeat (first | (with_reducible first | exact HB.out | apply below_alloc | apply pw_below_drewN | apply below_drew1 | refine below_set ?_ GE182.out) | exact HB.out)⟩⟩
              · replace c10 := Bool.eq_false_iff.mpr c10
                (subst c10); (have H1 : (piece_Check.j1 k1 a0 x5_1 l1 (l1.length : Int) x10_1 false false ((rd_T45 l1 x10_1).f1) ((rd_T45 l1 x10_1).f2) ((rd_T45 l1 x10_1).f3)) = some r := by rw [if_neg (show ¬ (false = true) by decide)] at H; exact H); clear H; (have H := H1); clear H1; (have H' := Aside0.mk H); clear H; (have hcz16_0 : w7.cell? ⟨gb182, 0, none⟩ = some (.bool false) := (blk_cell BK182.out 0).trans rfl); (have hcz16_1 : w7.cell? ⟨gb182, 1, none⟩ = some (.string (⟨#[]⟩ : ByteArray)) := (blk_cell BK182.out 1).trans rfl); (have hcz16_2 : w7.cell? ⟨gb182, 2, none⟩ = some (.string (⟨#[]⟩ : ByteArray)) := (blk_cell BK182.out 2).trans rfl); (have hcz16_3 : w7.cell? ⟨gb182, 3, none⟩ = some (.string (⟨#[]⟩ : ByteArray)) := (blk_cell BK182.out 3).trans rfl); (have hfz16_0 := blk_frozen BK182.out 0); (have hfz16_1 := blk_frozen BK182.out 1); (have hfz16_2 := blk_frozen BK182.out 2); (have hfz16_3 := blk_frozen BK182.out 3); go_wp2; (go_meet)
                case rel => (try simp only [← Nbq9.out]); exact ⟨_, (false), (by first | rfl | (simp; done) | (simp [*]; done)), H', ⟨by have := HK1.out; first | omega | exact Nat.le_refl _⟩, ⟨by (with_reducible repeat (first | apply Kd.R_alloc | apply Kd.R_drewN | apply Kd.R_drew)); exact Kd.R_mono (Kd.R_far (p := ⟨gb182, 3, none⟩) (Kd.R_far (p := ⟨gb182, 2, none⟩) (Kd.R_far (p := ⟨gb182, 1, none⟩) (Kd.R_far (p := ⟨gb182, 0, none⟩) (Kd.R_types HO_5.out BK182.out (by decide)) (fun _ hk => hk.2) (.bool (false))) (fun _ hk => hk.2) (.string ((rd_T45 l1 x10_1).f1))) (fun _ hk => hk.2) (.string ((rd_T45 l1 x10_1).f2))) (fun _ hk => hk.2) (.string ((rd_T45 l1 x10_1).f3))) (fun _ hk => trivial)⟩, ⟨by (with_reducible repeat (first | refine blk_drewN ?_ _ | refine blk_drew ?_ | refine blk_alloc ?_ _)); refine blk_put (cs := #[.bool (false), .string ((rd_T45 l1 x10_1).f1), .string ((rd_T45 l1 x10_1).f2), .string (⟨#[]⟩ : ByteArray)]) ?_ 3 _ rfl; (with_reducible repeat (first | refine blk_drewN ?_ _ | refine blk_drew ?_ | refine blk_alloc ?_ _)); refine blk_put (cs := #[.bool (false), .string ((rd_T45 l1 x10_1).f1), .string (⟨#[]⟩ : ByteArray), .string (⟨#[]⟩ : ByteArray)]) ?_ 2 _ rfl; (with_reducible repeat (first | refine blk_drewN ?_ _ | refine blk_drew ?_ | refine blk_alloc ?_ _)); refine blk_put (cs := #[.bool (false), .string (⟨#[]⟩ : ByteArray), .string (⟨#[]⟩ : ByteArray), .string (⟨#[]⟩ : ByteArray)]) ?_ 1 _ rfl; (with_reducible repeat (first | refine blk_drewN ?_ _ | refine blk_drew ?_ | refine blk_alloc ?_ _)); refine blk_put (cs := #[.bool false, .string (⟨#[]⟩ : ByteArray), .string (⟨#[]⟩ : ByteArray), .string (⟨#[]⟩ : ByteArray)]) ?_ 0 _ rfl; (with_reducible repeat (first | refine blk_drewN ?_ _ | refine blk_drew ?_ | refine blk_alloc ?_ _)); exact BK182.out⟩, ⟨by repeat (first | (with_reducible first | exact HB.out | apply below_alloc | apply pw_below_drewN | apply below_drew1 | refine below_set ?_ GE182.out) | exact HB.out)⟩⟩
            case rest =>
              clear HC6; (try clear c1); (try clear p1); (try clear q1); (try clear hx1); (try clear c2); (try clear p2); (try clear c3); (try clear c3b0); (try clear c4); (try clear c4b0); (try clear c5); (try clear c5b0); (try clear q9); (try clear c10); (try clear c11); (try clear c11b0); (try clear c11b1); (try clear c12); (try clear c12b0); (try clear c12b1); (try clear hcz13_0); (try clear hcz13_1); (try clear hcz13_2); (try clear hcz13_3); (try clear hcz14_0); (try clear hcz14_1); (try clear hcz14_2); (try clear hcz14_3); (try clear hcz15_0); (try clear hcz15_1); (try clear hcz15_2); (try clear hcz15_3); (try clear hcz16_0); (try clear hcz16_1); (try clear hcz16_2); (try clear hcz16_3); (try clear hcz8_0); (try clear hcz8_1); (try clear hcz8_2); (try clear hcz8_3); (try clear hfz13_0); (try clear hfz13_1); (try clear hfz13_2); (try clear hfz13_3); (try clear hfz14_0); (try clear hfz14_1); (try clear hfz14_2); (try clear hfz14_3); (try clear hfz15_0); (try clear hfz15_1); (try clear hfz15_2); (try clear hfz15_3); (try clear hfz16_0); (try clear hfz16_1); (try clear hfz16_2); (try clear hfz16_3); (try clear hfz8_0); (try clear hfz8_1); (try clear hfz8_2); (try clear hfz8_3); (try clear hx181_0); (try clear hx181_1); (try clear hx181_2); (try clear hx181_3); (try clear p181); (try clear p2); (try clear q181)
              obtain ⟨kq, x14_5, rfl, HA, HJ5, HO_5, BK182, HB⟩ := hcut
              cases kq with
              | zero => exact absurd HA.out (by simp [piece_Check.j1])
              | succ kj5 =>
                (have H := HA.out); clear HA; (simp only [piece_Check.j1] at H)
                by_cases c17 : x14_5 = true
                · subst c17
                  (have H1 : (if x5_1.length < 8796093022208 then (piece_Check.l0 kj5 a0 (x5_1 ++ [((rd_T45 l1 x10_1).f3)]) l1 (l1.length : Int) (wrap64 (x10_1 + 1))) else (none)) = some r := by rw [if_pos rfl] at H; exact H); clear H; (have H := H1); clear H1
                  by_cases c18 : x5_1.length < 8796093022208
                  · rw [if_pos c18] at H
                    (have LMc18 := Aside0.mk c18); clear c18
                    obtain ⟨y183, hy183⟩ : ∃ y_ : List ByteArray, y_ = (x5_1 ++ [((rd_T45 l1 x10_1).f3)]) := ⟨_, rfl⟩
                    (replace H : (piece_Check.l0 kj5 a0 y183 l1 (l1.length : Int) (wrap64 (x10_1 + 1))) = some r := by first | (rw [hy183]; with_reducible exact H) | (have H2_ := (Option.bind_some _ _).symm.trans H; rw [hy183]; with_reducible exact H2_) | (have H2_ := (Option.bind_some _ _).symm.trans H; with_reducible exact H2_) | with_reducible exact H | (rw [hy183]; exact H) | exact H); (have Ny183 := Aside0.mk hy183); clear hy183; (have H' := Aside0.mk H); clear H; (have hcz19_0 : wc.cell? ⟨gb182, 0, none⟩ = some (.bool ((rd_T45 l1 x10_1).f0)) := (blk_cell BK182.out 0).trans rfl); (have hcz19_1 : wc.cell? ⟨gb182, 1, none⟩ = some (.string ((rd_T45 l1 x10_1).f1)) := (blk_cell BK182.out 1).trans rfl); (have hcz19_2 : wc.cell? ⟨gb182, 2, none⟩ = some (.string ((rd_T45 l1 x10_1).f2)) := (blk_cell BK182.out 2).trans rfl); (have hcz19_3 : wc.cell? ⟨gb182, 3, none⟩ = some (.string ((rd_T45 l1 x10_1).f3)) := (blk_cell BK182.out 3).trans rfl); (have hfz19_0 := blk_frozen BK182.out 0); (have hfz19_1 := blk_frozen BK182.out 1); (have hfz19_2 := blk_frozen BK182.out 2); (have hfz19_3 := blk_frozen BK182.out 3); (go_wp2_with (first | ((with_reducible refine gate_builtin (b := .append) (xs := #[.tmp 33, .tmp 36]) rfl ?_); (try (refine gate_guard (by rfl) ?_; dsimp only)); at_builtin; refine Kd.R_append Kd.string (w0 := w) w.heap.size rfl (.tmp 33) (.tmp 36) 22 9 (.string ⟨#[]⟩) 16 rfl Tryd.underlying22 info9 rfl (by decide) (by omega) u5 x5_1 ((rd_T45 l1 x10_1).f3) [.string ((rd_T45 l1 x10_1).f3)] (fun _ => True) (fun _ => False) rfl rfl ?aP (fun _ hk => hk.elim) ?aF ?aO ?aB ?aS ?aL ?_; (case aP => exact rfl); (case aB => exact (by repeat (first | (with_reducible first | exact HB.out | apply below_alloc | apply pw_below_drewN | apply below_drew1 | refine below_set ?_ GE182.out) | exact HB.out))); (case aF => exact (fun _ _ => trivial)); (case aO => exact (by (with_reducible repeat (first | apply Kd.R_alloc | apply Kd.R_drewN | apply Kd.R_drew)); exact HO_5.out)); (case aS => exact (below_size (by repeat (first | (with_reducible first | exact HB.out | apply below_alloc | apply pw_below_drewN | apply below_drew1 | refine below_set ?_ GE182.out) | exact HB.out)))); (case aL => have := LMc18.out; omega); intro v184 w20 ho hb hg hat; rw [← Ny183.out] at ho; have n0_ := Aside0.mk (blk_grown (g := gb182) (o := .cells #[.bool ((rd_T45 l1 x10_1).f0), .string ((rd_T45 l1 x10_1).f1), .string ((rd_T45 l1 x10_1).f2), .string ((rd_T45 l1 x10_1).f3)] 45 (0, 0)) (by (with_reducible repeat (first | refine blk_drewN ?_ _ | refine blk_drew ?_ | refine blk_alloc ?_ _)); exact BK182.out) hg (Kd.R_ne HO_5.out BK182.out (by decide))); have n1_ := Aside0.mk (hb); have n2_ := Aside0.mk (ho); clear BK182; clear HB; clear HO_5; have BK182 := n0_; have HB := n1_; have HO185 := n2_; clear n0_ n1_ n2_; clear ho hb hg hat))); (go_roundg kj5)
                    case measure => have := HK1.out; have := HJ5.out; omega
                    case rel => (try simp only [← Nbq9.out]); exact ⟨(y183), (wrap64 (x10_1 + 1)), (by first | rfl | (simp; done) | (simp [*]; done)), H', ⟨by have := HK1.out; have := HJ5.out; omega⟩, ⟨by (with_reducible repeat (first | apply Kd.R_alloc | apply Kd.R_drewN | apply Kd.R_drew)); exact HO185.out⟩, ⟨by repeat (first | (with_reducible first | exact HB.out | apply below_alloc | apply pw_below_drewN | apply below_drew1 | refine below_set ?_ GE182.out) | exact HB.out)⟩⟩
                  · rw [if_neg c18] at H
                    (exact absurd H (by simp))
                · replace c17 := Bool.eq_false_iff.mpr c17
                  (subst c17); (have H1 : (if ((rd_T45 l1 x10_1).f0) = true then (some false) else (if (((rd_T45 l1 x10_1).f1).size : Int) = 16 then (if ((rd_T45 l1 x10_1).f3).toList = ([] : List UInt8) then (if ((rd_T45 l1 x10_1).f1).size + ((rd_T45 l1 x10_1).f2).size ≤ 9223372036854775807 then ((merkle_Leaf.f (((rd_T45 l1 x10_1).f1) ++ ((rd_T45 l1 x10_1).f2))).bind fun t186 => (if x5_1.length < 8796093022208 then (piece_Check.l0 kj5 a0 (x5_1 ++ [t186]) l1 (l1.length : Int) (wrap64 (x10_1 + 1))) else (none))) else (none)) else (some false)) else (some false))) = some r := by rw [if_neg (show ¬ (false = true) by decide)] at H; exact H); clear H; (have H := H1); clear H1
                  by_cases c21 : ((rd_T45 l1 x10_1).f0) = true
                  · rw [if_pos c21] at H
                    (have c21b0 : ((rd_T45 l1 x10_1).f0) = true := c21); clear c21
                    obtain rfl := Option.some.inj H
                    (have hcz22_0 : wc.cell? ⟨gb182, 0, none⟩ = some (.bool ((rd_T45 l1 x10_1).f0)) := (blk_cell BK182.out 0).trans rfl); (have hcz22_1 : wc.cell? ⟨gb182, 1, none⟩ = some (.string ((rd_T45 l1 x10_1).f1)) := (blk_cell BK182.out 1).trans rfl); (have hcz22_2 : wc.cell? ⟨gb182, 2, none⟩ = some (.string ((rd_T45 l1 x10_1).f2)) := (blk_cell BK182.out 2).trans rfl); (have hcz22_3 : wc.cell? ⟨gb182, 3, none⟩ = some (.string ((rd_T45 l1 x10_1).f3)) := (blk_cell BK182.out 3).trans rfl); (have hfz22_0 := blk_frozen BK182.out 0); (have hfz22_1 := blk_frozen BK182.out 1); (have hfz22_2 := blk_frozen BK182.out 2); (have hfz22_3 := blk_frozen BK182.out 3); go_wp2; (go_ret); (exact ⟨by first | rfl | (simp [errW_none, errW_some] <;> rfl) | (simp [*, errW_none, errW_some] <;> rfl), by repeat (first | (with_reducible first | exact HB.out | apply below_alloc | apply pw_below_drewN | apply below_drew1 | refine below_set ?_ GE182.out) | exact HB.out)⟩)
                  · rw [if_neg c21] at H
                    (have c21b0 : ((rd_T45 l1 x10_1).f0) = false := by simpa using c21); clear c21
                    by_cases c23 : (((rd_T45 l1 x10_1).f1).size : Int) = 16
                    · rw [if_pos c23] at H
                      (have c23b0 : ((((rd_T45 l1 x10_1).f1).size : Int) == 16) = true := beq_iff_eq.mpr c23); (have c23b1 : ((((rd_T45 l1 x10_1).f1).size : Int) != 16) = false := bne_eq_false_iff_eq.mpr c23); clear c23
                      by_cases c24 : ((rd_T45 l1 x10_1).f3).toList = ([] : List UInt8)
                      · rw [if_pos c24] at H
                        (have c24b0 : (((rd_T45 l1 x10_1).f3).toList == ([] : List UInt8)) = true := beq_iff_eq.mpr c24); (have c24b1 : (((rd_T45 l1 x10_1).f3).toList != ([] : List UInt8)) = false := bne_eq_false_iff_eq.mpr c24); clear c24
                        by_cases c25 : ((rd_T45 l1 x10_1).f1).size + ((rd_T45 l1 x10_1).f2).size ≤ 9223372036854775807
                        · rw [if_pos c25] at H
                          (have c25b0 := eq_true c25); (have c25b1 : decide (((rd_T45 l1 x10_1).f1).size + ((rd_T45 l1 x10_1).f2).size ≤ 9223372036854775807) = true := decide_eq_true c25); (try have c25b2 : (9223372036854775807 < ((rd_T45 l1 x10_1).f1).size + ((rd_T45 l1 x10_1).f2).size) = False := eq_false (Nat.not_lt.2 c25)); (replace H := Option.bind_eq_some_iff.mp H)
                          obtain ⟨t186, A260, H⟩ := H
                          (replace H : (if x5_1.length < 8796093022208 then (piece_Check.l0 kj5 a0 (x5_1 ++ [t186]) l1 (l1.length : Int) (wrap64 (x10_1 + 1))) else (none)) = some r := H); (have A26 := Aside0.mk A260); clear A260
                          by_cases c27 : x5_1.length < 8796093022208
                          · rw [if_pos c27] at H
                            (have LMc27 := Aside0.mk c27); clear c27
                            obtain ⟨y187, hy187⟩ : ∃ y_ : List ByteArray, y_ = (x5_1 ++ [t186]) := ⟨_, rfl⟩
                            (replace H : (piece_Check.l0 kj5 a0 y187 l1 (l1.length : Int) (wrap64 (x10_1 + 1))) = some r := by first | (rw [hy187]; with_reducible exact H) | (have H2_ := (Option.bind_some _ _).symm.trans H; rw [hy187]; with_reducible exact H2_) | (have H2_ := (Option.bind_some _ _).symm.trans H; with_reducible exact H2_) | with_reducible exact H | (rw [hy187]; exact H) | exact H); (have Ny187 := Aside0.mk hy187); clear hy187; (have H' := Aside0.mk H); clear H; (have hcz28_0 : wc.cell? ⟨gb182, 0, none⟩ = some (.bool ((rd_T45 l1 x10_1).f0)) := (blk_cell BK182.out 0).trans rfl); (have hcz28_1 : wc.cell? ⟨gb182, 1, none⟩ = some (.string ((rd_T45 l1 x10_1).f1)) := (blk_cell BK182.out 1).trans rfl); (have hcz28_2 : wc.cell? ⟨gb182, 2, none⟩ = some (.string ((rd_T45 l1 x10_1).f2)) := (blk_cell BK182.out 2).trans rfl); (have hcz28_3 : wc.cell? ⟨gb182, 3, none⟩ = some (.string ((rd_T45 l1 x10_1).f3)) := (blk_cell BK182.out 3).trans rfl); (have hfz28_0 := blk_frozen BK182.out 0); (have hfz28_1 := blk_frozen BK182.out 1); (have hfz28_2 := blk_frozen BK182.out 2); (have hfz28_3 := blk_frozen BK182.out 3); (go_wp2_with (first | ((with_reducible refine gate_callee (f := 56) rfl ?_); refine goesL_ (some 59) rfl rfl Tryd.func56 (by kernel_rfl) rfl #[.string (((rd_T45 l1 x10_1).f1) ++ ((rd_T45 l1 x10_1).f2))] rfl (by (try simp only [List.map_toArray, List.map_cons, List.map_nil]); first | done | rfl | (simp only [List.length_drop, List.length_take]; rfl)) ?_; (with_reducible refine (merkle_Leaf.calls (((rd_T45 l1 x10_1).f1) ++ ((rd_T45 l1 x10_1).f2)) t186 _ (by first | ((repeat (first | exact HG_.out | apply GW.drewN | apply GW.drew | apply GW.alloc)); done) | exact GW.below HG_.out (by repeat (first | (with_reducible first | exact HB.out | apply below_alloc | apply pw_below_drewN | apply below_drew1 | refine below_set ?_ GE182.out) | exact HB.out))) A26.out).mono ?_); rintro e w29 ⟨rfl, hb⟩; refine ⟨_, rfl, ?_⟩; have n0_ := Aside0.mk (Kd.R_below (by (with_reducible repeat (first | apply Kd.R_alloc | apply Kd.R_drewN | apply Kd.R_drew)); exact HO_5.out) hb); have n1_ := Aside0.mk (blk_below (g := gb182) (o := .cells #[.bool ((rd_T45 l1 x10_1).f0), .string ((rd_T45 l1 x10_1).f1), .string ((rd_T45 l1 x10_1).f2), .string ((rd_T45 l1 x10_1).f3)] 45 (0, 0)) (by (with_reducible repeat (first | refine blk_drewN ?_ _ | refine blk_drew ?_ | refine blk_alloc ?_ _)); exact BK182.out) hb); have n2_ := Aside0.mk (below_step (by repeat (first | (with_reducible first | exact HB.out | apply below_alloc | apply pw_below_drewN | apply below_drew1 | refine below_set ?_ GE182.out) | exact HB.out)) hb); clear HO_5; clear BK182; clear HB; have HO_5 := n0_; have BK182 := n1_; have HB := n2_; clear n0_ n1_ n2_; (try clear hb); (try clear hb2); (try clear hk); (try clear hi)) | ((with_reducible refine gate_builtin (b := .append) (xs := #[.tmp 53, .tmp 60]) rfl ?_); (try (refine gate_guard (by rfl) ?_; dsimp only)); at_builtin; refine Kd.R_append Kd.string (w0 := w) w.heap.size rfl (.tmp 53) (.tmp 60) 22 9 (.string ⟨#[]⟩) 16 rfl Tryd.underlying22 info9 rfl (by decide) (by omega) u5 x5_1 t186 [.string t186] (fun _ => True) (fun _ => False) rfl rfl ?aP (fun _ hk => hk.elim) ?aF ?aO ?aB ?aS ?aL ?_; (case aP => exact rfl); (case aB => exact (by repeat (first | (with_reducible first | exact HB.out | apply below_alloc | apply pw_below_drewN | apply below_drew1 | refine below_set ?_ GE182.out) | exact HB.out))); (case aF => exact (fun _ _ => trivial)); (case aO => exact (by (with_reducible repeat (first | apply Kd.R_alloc | apply Kd.R_drewN | apply Kd.R_drew)); exact HO_5.out)); (case aS => exact (below_size (by repeat (first | (with_reducible first | exact HB.out | apply below_alloc | apply pw_below_drewN | apply below_drew1 | refine below_set ?_ GE182.out) | exact HB.out)))); (case aL => have := LMc27.out; omega); intro v188 w30 ho hb hg hat; rw [← Ny187.out] at ho; have n0_ := Aside0.mk (blk_grown (g := gb182) (o := .cells #[.bool ((rd_T45 l1 x10_1).f0), .string ((rd_T45 l1 x10_1).f1), .string ((rd_T45 l1 x10_1).f2), .string ((rd_T45 l1 x10_1).f3)] 45 (0, 0)) (by (with_reducible repeat (first | refine blk_drewN ?_ _ | refine blk_drew ?_ | refine blk_alloc ?_ _)); exact BK182.out) hg (Kd.R_ne HO_5.out BK182.out (by decide))); have n1_ := Aside0.mk (hb); have n2_ := Aside0.mk (ho); clear BK182; clear HB; clear HO_5; have BK182 := n0_; have HB := n1_; have HO189 := n2_; clear n0_ n1_ n2_; clear ho hb hg hat))); (go_roundg kj5)
                            case measure => have := HK1.out; have := HJ5.out; omega
                            case rel => (try simp only [← Nbq9.out]); exact ⟨(y187), (wrap64 (x10_1 + 1)), (by first | rfl | (simp; done) | (simp [*]; done)), H', ⟨by have := HK1.out; have := HJ5.out; omega⟩, ⟨by (with_reducible repeat (first | apply Kd.R_alloc | apply Kd.R_drewN | apply Kd.R_drew)); exact HO189.out⟩, ⟨by repeat (first | (with_reducible first | exact HB.out | apply below_alloc | apply pw_below_drewN | apply below_drew1 | refine below_set ?_ GE182.out) | exact HB.out)⟩⟩
                          · rw [if_neg c27] at H
                            (exact absurd H (by simp))
                        · rw [if_neg c25] at H
                          (exact absurd H (by simp))
                      · rw [if_neg c24] at H
                        (have c24b0 : (((rd_T45 l1 x10_1).f3).toList == ([] : List UInt8)) = false := beq_eq_false_iff_ne.mpr c24); (have c24b1 : (((rd_T45 l1 x10_1).f3).toList != ([] : List UInt8)) = true := bne_iff_ne.mpr c24)
                        obtain rfl := Option.some.inj H
                        (have hcz31_0 : wc.cell? ⟨gb182, 0, none⟩ = some (.bool ((rd_T45 l1 x10_1).f0)) := (blk_cell BK182.out 0).trans rfl); (have hcz31_1 : wc.cell? ⟨gb182, 1, none⟩ = some (.string ((rd_T45 l1 x10_1).f1)) := (blk_cell BK182.out 1).trans rfl); (have hcz31_2 : wc.cell? ⟨gb182, 2, none⟩ = some (.string ((rd_T45 l1 x10_1).f2)) := (blk_cell BK182.out 2).trans rfl); (have hcz31_3 : wc.cell? ⟨gb182, 3, none⟩ = some (.string ((rd_T45 l1 x10_1).f3)) := (blk_cell BK182.out 3).trans rfl); (have hfz31_0 := blk_frozen BK182.out 0); (have hfz31_1 := blk_frozen BK182.out 1); (have hfz31_2 := blk_frozen BK182.out 2); (have hfz31_3 := blk_frozen BK182.out 3); go_wp2; (go_ret); (exact ⟨by first | rfl | (simp [errW_none, errW_some] <;> rfl) | (simp [*, errW_none, errW_some] <;> rfl), by repeat (first | (with_reducible first | exact HB.out | apply below_alloc | apply pw_below_drewN | apply below_drew1 | refine below_set ?_ GE182.out) | exact HB.out)⟩)
                    · rw [if_neg c23] at H
                      (have c23b0 : ((((rd_T45 l1 x10_1).f1).size : Int) == 16) = false := beq_eq_false_iff_ne.mpr c23); (have c23b1 : ((((rd_T45 l1 x10_1).f1).size : Int) != 16) = true := bne_iff_ne.mpr c23)
                      obtain rfl := Option.some.inj H
                      (have hcz32_0 : wc.cell? ⟨gb182, 0, none⟩ = some (.bool ((rd_T45 l1 x10_1).f0)) := (blk_cell BK182.out 0).trans rfl); (have hcz32_1 : wc.cell? ⟨gb182, 1, none⟩ = some (.string ((rd_T45 l1 x10_1).f1)) := (blk_cell BK182.out 1).trans rfl); (have hcz32_2 : wc.cell? ⟨gb182, 2, none⟩ = some (.string ((rd_T45 l1 x10_1).f2)) := (blk_cell BK182.out 2).trans rfl); (have hcz32_3 : wc.cell? ⟨gb182, 3, none⟩ = some (.string ((rd_T45 l1 x10_1).f3)) := (blk_cell BK182.out 3).trans rfl); (have hfz32_0 := blk_frozen BK182.out 0); (have hfz32_1 := blk_frozen BK182.out 1); (have hfz32_2 := blk_frozen BK182.out 2); (have hfz32_3 := blk_frozen BK182.out 3); go_wp2; (go_ret); (exact ⟨by first | rfl | (simp [errW_none, errW_some] <;> rfl) | (simp [*, errW_none, errW_some] <;> rfl), by repeat (first | (with_reducible first | exact HB.out | apply below_alloc | apply pw_below_drewN | apply below_drew1 | refine below_set ?_ GE182.out) | exact HB.out)⟩)
          · rw [if_neg c5] at H
            (exact absurd H (by simp))
        · rw [if_neg c4] at H
          (exact absurd H (by simp))
      · rw [if_neg c3] at H
        (have c3b0 : decide (x10_1 < (l1.length : Int)) = false := decide_eq_false c3); clear c3; (replace H := Option.bind_eq_some_iff.mp H)
        obtain ⟨t180, A330, H⟩ := H
        (replace H : (some (t180.toList == a0.toList)) = some r := H); (have A33 := Aside0.mk A330); clear A330
        obtain rfl := Option.some.inj H
        obtain ⟨Ao34, co34, eo34⟩ := Kd.R_slice HO_5.out
        (subst eo34); (go_wp2_with (first | ((with_reducible refine gate_callee (f := 59) rfl ?_); refine goesL_ (some 64) rfl rfl Tryd.func59 (by kernel_rfl) rfl #[.slice Ao34 x5_1.length co34] rfl (by (try simp only [List.map_toArray, List.map_cons, List.map_nil]); first | done | rfl | (simp only [List.length_drop, List.length_take]; rfl)) ?_; (with_reducible refine (piece_commit.calls k1 _ _ x5_1 t180 _ (by first | ((repeat (first | exact HG_.out | apply GW.drewN | apply GW.drew | apply GW.alloc)); done) | exact GW.below HG_.out (by repeat (first | (with_reducible first | exact HB.out | apply below_alloc | apply pw_below_drewN | apply below_drew1) | exact HB.out))) ?side1 ?side2 A33.out).mono ?_); (case side1 => repeat (first | exact (Kd.R_reads' HO_5.out).2.2 | (with_reducible refine Kd.C_alloc ?_ _) | (with_reducible refine Kd.C_drewN ?_ _) | (with_reducible refine Kd.C_drew ?_))); (case side2 => exact (Kd.R_reads' HO_5.out).2.1); rintro e w35 ⟨rfl, hb⟩; refine ⟨_, rfl, ?_⟩; have n0_ := Aside0.mk (Kd.R_below (by (with_reducible repeat (first | apply Kd.R_alloc | apply Kd.R_drewN | apply Kd.R_drew)); exact HO_5.out) hb); have n1_ := Aside0.mk (below_step (by repeat (first | (with_reducible first | exact HB.out | apply below_alloc | apply pw_below_drewN | apply below_drew1) | exact HB.out)) hb); clear HO_5; clear HB; have HO_5 := n0_; have HB := n1_; clear n0_ n1_; (try clear hb); (try clear hb2); (try clear hk); (try clear hi)))); (go_ret); (exact ⟨by first | rfl | (simp [errW_none, errW_some] <;> rfl) | (simp [*, errW_none, errW_some] <;> rfl), by repeat (first | (with_reducible first | exact HB.out | apply below_alloc | apply pw_below_drewN | apply below_drew1) | exact HB.out)⟩)

/-! ### piece_Hide: function 31 -/
def piece_Hide.pr (x : S43) : Int × Int := (x.f0, x.f1)
def piece_Hide.mk (x : Int × Int) : S43 := ⟨x.1, x.2⟩
def piece_Hide.f (l0 : List S43) (a1_0 a1_1 : Int) : Option (List S43) :=
  if l0.length ≤ 4398046511102 then some ((Span.hideA (l0.map piece_Hide.pr) (a1_0, a1_1)).map piece_Hide.mk) else none
theorem piece_Hide.rd (w : World) (A : Option Addr) (l : List S43) (h : Kd.C k43 w A l.length l) : HideW.RdS w A l.length (l.map piece_Hide.pr) := by
  refine ⟨by rw [List.length_map], fun hn => ?_⟩
  obtain ⟨ad, e, hc⟩ := h.2.2 hn
  refine ⟨ad, e, fun j u hu => ?_⟩
  have hj : j < (l.map piece_Hide.pr).length * 2 := by
    have := (List.getElem?_eq_some_iff.1 hu).1
    rwa [SortSpan.cellsS_length] at this
  rw [SortSpan.cellsS_get _ j hj] at hu
  rw [List.length_map] at hj
  have hk : j / 2 < l.length := by omega
  obtain ⟨c, _, hK, hcell⟩ := hc (j / 2) _ (List.getElem?_eq_getElem hk)
  obtain rfl := k43_open hK
  rw [List.getElem?_map, List.getElem?_eq_getElem hk] at hu
  have e2 : j / 2 * 2 + j % 2 = j := by omega
  have h0 := hcell 0 _ rfl
  have h1 := hcell 1 _ rfl
  rcases Nat.mod_two_eq_zero_or_one j with hm | hm
  · rw [hm] at e2 hu
    rw [← e2]
    refine (hcell 0 _ rfl).trans ?_
    exact hu
  · rw [hm] at e2 hu
    rw [← e2]
    refine (hcell 1 _ rfl).trans ?_
    exact hu
theorem piece_Hide.reps {R : S43 → List Value → Prop} (hR : ∀ x : S43, R x [.int .i64 x.f0, .int .i64 x.f1]) (ys : List (Int × Int)) (ps : List S43) (cs : List Value) (h : Reps R 2 ps cs) : Reps R 2 (ps ++ ys.map piece_Hide.mk) (cs ++ SortSpan.cellsS ys) := by
  induction ys generalizing ps cs with
  | nil => simpa [SortSpan.cellsS] using h
  | cons y l ih =>
    have h1 := ih _ _ (h.snoc (hR (piece_Hide.mk y)) rfl)
    rw [List.append_assoc, List.append_assoc] at h1
    exact h1
theorem piece_Hide.calls (A0 : Option Addr) (c0 : Nat) (l0 : List S43) (a1_0 a1_1 : Int) (r : List S43) (w : World) (hG : GW w) (hr0 : Kd.C k43 w A0 l0.length l0) (hc0 : l0.length ≤ c0) (h : piece_Hide.f l0 a1_0 a1_1 = some r) :
    Calls Tryd.prog 31 #[.slice A0 l0.length c0, .agg #[.int .i64 a1_0, .int .i64 a1_1]] w fun e w' => ∃ v0_ : Value, e = .returned (v0_) ∧ Kd.R k43 43 w' w.heap.size (fun _ => True) v0_ r ∧ Below w.heap.size w w' := by
  (unfold piece_Hide.f at h)
  by_cases hl : l0.length ≤ 4398046511102
  · rw [if_pos hl] at h
    obtain rfl := Option.some.inj h
    (refine (HideW.hide_any l0.length c0 A0 (l0.map piece_Hide.pr) (a1_0, a1_1) w (piece_Hide.rd w A0 l0 hr0) (by omega)).mono ?_); (rintro e w' ⟨v, rfl, ho, hw⟩); (refine ⟨v, rfl, ⟨fun _ _ => trivial, _, by rw [List.length_map]; exact ho, ?_⟩, hw⟩); (have := piece_Hide.reps (R := k43.M w' w.heap.size (fun k => True ∧ some k ≠ v.ownBlock)) (fun x => k43_mkM _ _ _ x) (Span.hideA (l0.map piece_Hide.pr) (a1_0, a1_1)) [] [] (Reps.none _ _)); (rw [List.nil_append, List.nil_append] at this); (exact this)
  · rw [if_neg hl] at h
    cases h

/-! ### piece_Text: function 34 -/
def piece_Text.one (x : S45) : List UInt8 := if x.f0 then [91, 114, 101, 100, 97, 99, 116, 101, 100, 93, 10] else x.f2.data.toList ++ [10]
def piece_Text.s (l : List S45) : List UInt8 := l.flatMap piece_Text.one
def piece_Text.f (l0 : List S45) : Option ByteArray := if (piece_Text.s l0).length ≤ 70368744177664 then some ⟨(piece_Text.s l0).toArray⟩ else none
set_option maxHeartbeats 4000000 in
theorem piece_Text.calls (A0 : Option Addr) (c0 : Nat) (l0 : List S45) (r : ByteArray) (w : World) (hG : GW w) (hr0 : Kd.C k45 w A0 l0.length l0) (hc0 : l0.length ≤ c0) (h : piece_Text.f l0 = some r) :
    Calls Tryd.prog 34 #[.slice A0 l0.length c0] w fun e w' => e = .returned (.string r) ∧ Below w.heap.size w w' := by
  (unfold piece_Text.f at h)
  by_cases hs : (piece_Text.s l0).length ≤ 70368744177664
  case neg => rw [if_neg hs] at h; cases h
  (rw [if_pos hs] at h)
  obtain rfl := Option.some.inj h
  (have HR := Aside0.mk hr0); (have HS := Aside0.mk hs)
  have hlen : l0.length ≤ (piece_Text.s l0).length := by
    clear hs h hc0 hr0 HR HS; (unfold piece_Text.s)
    induction l0 with
    | nil => exact Nat.zero_le _
    | cons x l ih => rw [List.flatMap_cons, List.length_append, List.length_cons]; have : 1 ≤ (piece_Text.one x).length := by unfold piece_Text.one; split <;> simp
                     (omega)
  (have hl : l0.length ≤ 70368744177664 := by omega); clear hr0 hs h hG hc0 hlen
  obtain ⟨n, hn⟩ : ∃ n, l0.length = n := ⟨_, rfl⟩
  (have HN := Aside0.mk hn); (rw [hn] at HR hl ⊢); clear hn; (go_enter Tryd.func34, Tryd.ntmps34); go_wp2; (go_loopw [8] (fun i wr => ∃ k : Nat, k ≤ n ∧ i = .int .i64 (k : Int) ∧ Bld.Bld wr w.heap.size w.heap.size (piece_Text.s (l0.take k)) ∧ Below w.heap.size w wr) (fun i _ => n - (intOf i).toNat))
  case atStart => exact ⟨0, Nat.zero_le _, rfl, Bld.Bld.new w _ (Nat.le_refl _), (Below.refl _ _).alloc (Nat.le_refl _) _⟩
  case round =>
    obtain ⟨k, hk, rfl, hb, hw⟩ := hrel
    (have hz := hw.size)
    by_cases hlt : k < n
    · obtain ⟨ad, rfl, h0, h1, h2, h3⟩ := at_T45 (Kd.C_below HR.out hw) (k : Int) (by omega) (by omega)
      (rw [Int.toNat_natCast] at h0 h1 h2 h3); (have ht := flat_take piece_Text.one l0 k z45 (by rw [HN.out]; exact hlt)); (have hle := flat_le piece_Text.one l0 (k + 1)); (have hx : rd_T45 l0 (k : Int) = l0[k]?.getD z45 := by unfold rd_T45; rw [Int.toNat_natCast, List.getD_eq_getElem?_getD]); (rw [← hx] at ht); clear hx
      generalize rd_T45 l0 (k : Int) = x at *
      have hle2 : (piece_Text.s (l0.take k) ++ piece_Text.one x).length ≤ 70368744177664 := by
        (have h1 := HS.out); (unfold piece_Text.s at h1 ⊢); (rw [ht] at hle); (exact Nat.le_trans hle h1)
      have e3 : piece_Text.s (l0.take k) ++ piece_Text.one x = piece_Text.s (l0.take (k + 1)) := by
        (unfold piece_Text.s; rw [ht])
      (have HT := Aside0.mk e3); clear ht hle e3; (have x3 : (k : Int) < n := by omega)
      cases hf : x.f0 with
      | true =>
        (have e1 : piece_Text.one x = (⟨#[91, 114, 101, 100, 97, 99, 116, 101, 100, 93, 10]⟩ : ByteArray).data.toList := by unfold piece_Text.one; rw [hf]; rfl); (rw [e1] at hle2); (rw [List.length_append] at hle2); (have hle3 : (piece_Text.s (l0.take k)).length + (⟨#[91, 114, 101, 100, 97, 99, 116, 101, 100, 93, 10]⟩ : ByteArray).size ≤ 140737488355328 := by rw [data_length] at hle2; omega); (have HE := Aside0.mk e1); (have HF := Aside0.mk hf); (rw [hf] at h0); clear e1 hle2 hf; (go_wp2_with fail); (refine (Bld.writeString_any w.heap.size w.heap.size _ ⟨#[91, 114, 101, 100, 97, 99, 116, 101, 100, 93, 10]⟩ _ (hb.alloc _) hle3 (by simp; omega)).mono ?_); (rintro e w1 ⟨rfl, hb1, hw1, hk1⟩); (have hw2 := (below_alloc hw (.cells #[.bool true, .string x.f1, .string x.f2, .string x.f3] 45)).trans hw1); go_wp2; (go_roundw)
        case rel => exact ⟨k + 1, by omega, by go_num, by rw [← HT.out, HE.out]; exact hb1, hw2⟩
        case measure => simp [intOf]; omega
      | false =>
        (have e1 : piece_Text.one x = x.f2.data.toList ++ [10] := by unfold piece_Text.one; rw [hf]; rfl); (rw [e1, ← List.append_assoc] at hle2); (rw [List.length_append, List.length_append, data_length] at hle2); (have hle3 : (piece_Text.s (l0.take k)).length + x.f2.size ≤ 140737488355328 := by omega); (have hle4 : (piece_Text.s (l0.take k) ++ x.f2.data.toList).length + 1 ≤ 140737488355328 := by rw [List.length_append, data_length]; simp only [List.length_singleton] at hle2; omega); (have HE := Aside0.mk e1); (have HF := Aside0.mk hf); (rw [hf] at h0); clear e1 hle2 hf; (go_wp2_with fail); (refine (Bld.writeString_any w.heap.size w.heap.size _ x.f2 _ (hb.alloc _) hle3 (by simp; omega)).mono ?_); (rintro e w1 ⟨rfl, hb1, hw1, hk1⟩); (have hw2 := (below_alloc hw (.cells #[.bool false, .string x.f1, .string x.f2, .string x.f3] 45)).trans hw1); (have hz1 := hw2.size); (go_wp2_with fail); (refine (Bld.writeByte_any w.heap.size w.heap.size _ 10 10 rfl _ hb1 hle4 hz1).mono ?_); (rintro e w2 ⟨rfl, hb2, hw3, hk2⟩); go_wp2; (go_roundw)
        case rel => exact ⟨k + 1, by omega, by go_num, by rw [← HT.out, HE.out, ← List.append_assoc]; exact hb2, hw2.trans hw3⟩
        case measure => simp [intOf]; omega
    · have hkn : k = n := by omega
      (have he : l0.take k = l0 := List.take_of_length_le (by rw [HN.out]; omega)); (rw [he] at hb); clear he hkn; (go_wp2_with fail); (refine (Bld.string_any w.heap.size w.heap.size _ _ hb hz).mono ?_); (rintro e w1 ⟨rfl, hw1⟩); go_wp2; (go_ret); (exact ⟨rfl, hw.trans hw1⟩)

end Go.Proofs.YtjnlppmodagegaaDoor.PPd
