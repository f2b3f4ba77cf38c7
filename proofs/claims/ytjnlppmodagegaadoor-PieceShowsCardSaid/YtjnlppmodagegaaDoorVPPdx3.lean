/- Printed for this claim by a program over the kit's print: Go functions as Lean functions, each with the proof that the call comes to what the function says. -/
import Derived.Test.YtjnlppmodagegaaDoorVPPdx0
namespace Go.Proofs.YtjnlppmodagegaaDoor.PPd
open Go.RowKit Go.Proofs.YtjnlppmodagegaaDoorW.PrintWords Go.Proofs.YtjnlppmodagegaaDoorW.PrintLast Go.Proofs.YtjnlppmodagegaaDoorW.PrintMore
theorem sqAum3_ {α : Type} (l : List α) (i : Nat) (a : α) : l.toArray.setIfInBounds i a = (l.set i a).toArray := List.setIfInBounds_toArray l i a
theorem sqBum3_ {α : Type} (x a : α) (l : List α) : (x :: l).set 0 a = a :: l := rfl
theorem sqCum3_ {α : Type} (x a : α) (l : List α) (n : Nat) : (x :: l).set (n + 1) a = x :: l.set n a := rfl
attribute [local go_sem] max2_int min2_int max_two min_two max_three min_three max_four min_four   -- for this text's walks alone
set_option linter.unusedVariables false
set_option linter.unusedSimpArgs false

/-! ### digest_Mac: function 61 -/
def digest_Mac.f (a0 a1 : ByteArray) : Option ByteArray := if a0.size ≤ 70368744177664 then (if a1.size ≤ 70368744177000 then some (Sha.macI constTab a0 a1) else none) else none
theorem digest_Mac.calls (a0 a1 : ByteArray) (r : ByteArray) (w : World) (hG : GW w) (h : digest_Mac.f a0 a1 = some r) :
    Calls Tryd.prog 61 #[.string a0, .string a1] w fun e w' => e = .returned (.string r) ∧ Below w.heap.size w w' := by
  (unfold digest_Mac.f at h)
  by_cases h1 : a0.size ≤ 70368744177664
  · rw [if_pos h1] at h
    by_cases h2 : a1.size ≤ 70368744177000
    · rw [if_pos h2] at h
      obtain rfl := Option.some.inj h
      (exact Sha.mac_any a0 a1 h1 h2 w constTab rfl hG.const_lt hG.kcell)
    · rw [if_neg h2] at h
      cases h
  · rw [if_neg h1] at h
    cases h

/-! ### strconv_Itoa: function 99 -/
def strconv_Itoa.f (a0 : Int) : Option ByteArray := if -9223372036854775808 ≤ a0 ∧ a0 ≤ 9223372036854775807 then some ⟨(Lib.itoa a0).toArray⟩ else none
theorem strconv_Itoa.calls (a0 : Int) (r : ByteArray) (w : World) (hG : GW w) (h : strconv_Itoa.f a0 = some r) :
    Calls Tryd.prog 99 #[.int .i64 a0] w fun e w' => e = .returned (.string r) ∧ Below w.heap.size w w' := by
  (unfold strconv_Itoa.f at h)
  by_cases h1 : -9223372036854775808 ≤ a0 ∧ a0 ≤ 9223372036854775807
  · rw [if_pos h1] at h
    obtain rfl := Option.some.inj h
    (exact (Tryd.strconv_Itoa a0 h1.1 h1.2 w hG.pow).mono fun e w' ⟨he, k, os, hw⟩ => ⟨he, by rw [hw]; exact Lib.below_grow _ w (Nat.le_refl _) k os⟩)
  · rw [if_neg h1] at h
    cases h

/-! ### wire_Text: function 62 -/
def wire_Text.f (a0 : ByteArray) : Option (ByteArray) := (strconv_Itoa.f (a0.size : Int)).bind fun t101 => (if t101.size + 1 ≤ 9223372036854775807 then (if (t101 ++ (⟨#[58]⟩ : ByteArray)).size + a0.size ≤ 9223372036854775807 then (if ((t101 ++ (⟨#[58]⟩ : ByteArray)) ++ a0).size + 1 ≤ 9223372036854775807 then (some (((t101 ++ (⟨#[58]⟩ : ByteArray)) ++ a0) ++ (⟨#[44]⟩ : ByteArray))) else (none)) else (none)) else (none))
set_option maxHeartbeats 8000000 in
set_option maxRecDepth 100000 in
theorem wire_Text.calls (a0 : ByteArray) (r : ByteArray) (w : World) (hG : GW w) (h : wire_Text.f a0 = some r) :
    Calls Tryd.prog 62 #[.string a0] w fun e w' => e = .returned (.string r) ∧ Below w.heap.size w w' := by
  (have HG_ := Aside0.mk hG); clear hG; (have HB := Aside0.mk (Below.refl w.heap.size w)); (have H : ((strconv_Itoa.f (a0.size : Int)).bind fun t101 => (if t101.size + 1 ≤ 9223372036854775807 then (if (t101 ++ (⟨#[58]⟩ : ByteArray)).size + a0.size ≤ 9223372036854775807 then (if ((t101 ++ (⟨#[58]⟩ : ByteArray)) ++ a0).size + 1 ≤ 9223372036854775807 then (some (((t101 ++ (⟨#[58]⟩ : ByteArray)) ++ a0) ++ (⟨#[44]⟩ : ByteArray))) else (none)) else (none)) else (none))) = some r := h); clear h; (replace H := Option.bind_eq_some_iff.mp H)
  obtain ⟨t101, A20, H⟩ := H
  (replace H : (if t101.size + 1 ≤ 9223372036854775807 then (if (t101 ++ (⟨#[58]⟩ : ByteArray)).size + a0.size ≤ 9223372036854775807 then (if ((t101 ++ (⟨#[58]⟩ : ByteArray)) ++ a0).size + 1 ≤ 9223372036854775807 then (some (((t101 ++ (⟨#[58]⟩ : ByteArray)) ++ a0) ++ (⟨#[44]⟩ : ByteArray))) else (none)) else (none)) else (none)) = some r := H); (have A2 := Aside0.mk A20); clear A20
  by_cases c3 : t101.size + 1 ≤ 9223372036854775807
  · rw [if_pos c3] at H
    (have c3b0 := eq_true c3); (have c3b1 : decide (t101.size + 1 ≤ 9223372036854775807) = true := decide_eq_true c3); (try have c3b2 : (9223372036854775807 < t101.size + 1) = False := eq_false (Nat.not_lt.2 c3))
    by_cases c4 : (t101 ++ (⟨#[58]⟩ : ByteArray)).size + a0.size ≤ 9223372036854775807
    · rw [if_pos c4] at H
      (have c4b0 := eq_true c4); (have c4b1 : decide ((t101 ++ (⟨#[58]⟩ : ByteArray)).size + a0.size ≤ 9223372036854775807) = true := decide_eq_true c4); (try have c4b2 : (9223372036854775807 < (t101 ++ (⟨#[58]⟩ : ByteArray)).size + a0.size) = False := eq_false (Nat.not_lt.2 c4)); (try (have c4n := c4b2; simp only [ByteArray.size_append, size_mk_, List.size_toArray, List.length_cons, List.length_nil, Nat.zero_add, Nat.reduceAdd] at c4n))
      by_cases c5 : ((t101 ++ (⟨#[58]⟩ : ByteArray)) ++ a0).size + 1 ≤ 9223372036854775807
      · rw [if_pos c5] at H
        (have c5b0 := eq_true c5); (have c5b1 : decide (((t101 ++ (⟨#[58]⟩ : ByteArray)) ++ a0).size + 1 ≤ 9223372036854775807) = true := decide_eq_true c5); (try have c5b2 : (9223372036854775807 < ((t101 ++ (⟨#[58]⟩ : ByteArray)) ++ a0).size + 1) = False := eq_false (Nat.not_lt.2 c5)); (try (have c5n := c5b2; simp only [ByteArray.size_append, size_mk_, List.size_toArray, List.length_cons, List.length_nil, Nat.zero_add, Nat.reduceAdd] at c5n))
        obtain rfl := Option.some.inj H
        (go_enter Tryd.func62, Tryd.ntmps62); (go_wp2_with (first | ((with_reducible refine gate_callee (f := 99) rfl ?_); refine goesL_ (some 5) rfl rfl Tryd.func99 (by kernel_rfl) rfl #[.int .i64 (a0.size : Int)] rfl (by (try simp only [List.map_toArray, List.map_cons, List.map_nil]); first | done | rfl | (simp only [List.length_drop, List.length_take]; rfl)) ?_; (with_reducible refine (strconv_Itoa.calls (a0.size : Int) t101 _ (by first | ((repeat (first | exact HG_.out | apply GW.drewN | apply GW.drew | apply GW.alloc)); done) | exact GW.below HG_.out (by repeat (first | (with_reducible first | exact HB.out | apply below_alloc | apply pw_below_drewN | apply below_drew1) | exact HB.out))) A2.out).mono ?_); rintro e w6 ⟨rfl, hb⟩; refine ⟨_, rfl, ?_⟩; have n0_ := Aside0.mk (below_step (by repeat (first | (with_reducible first | exact HB.out | apply below_alloc | apply pw_below_drewN | apply below_drew1) | exact HB.out)) hb); clear HB; have HB := n0_; clear n0_; (try clear hb); (try clear hb2); (try clear hk); (try clear hi)))); (go_ret); (exact ⟨by first | rfl | (simp [errW_none, errW_some] <;> rfl) | (simp [*, errW_none, errW_some] <;> rfl), by repeat (first | (with_reducible first | exact HB.out | apply below_alloc | apply pw_below_drewN | apply below_drew1) | exact HB.out)⟩)
      · rw [if_neg c5] at H
        (exact absurd H (by simp))
    · rw [if_neg c4] at H
      (exact absurd H (by simp))
  · rw [if_neg c3] at H
    (exact absurd H (by simp))

/-! ### wire_Int: function 63 -/
def wire_Int.f (a0 : Int) : Option (ByteArray) := (strconv_Itoa.f a0).bind fun t102 => (if t102.size + 1 ≤ 9223372036854775807 then (some (t102 ++ (⟨#[59]⟩ : ByteArray))) else (none))
set_option maxHeartbeats 8000000 in
set_option maxRecDepth 100000 in
theorem wire_Int.calls (a0 : Int) (r : ByteArray) (w : World) (hG : GW w) (h : wire_Int.f a0 = some r) :
    Calls Tryd.prog 63 #[.int .i64 a0] w fun e w' => e = .returned (.string r) ∧ Below w.heap.size w w' := by
  (have HG_ := Aside0.mk hG); clear hG; (have HB := Aside0.mk (Below.refl w.heap.size w)); (have H : ((strconv_Itoa.f a0).bind fun t102 => (if t102.size + 1 ≤ 9223372036854775807 then (some (t102 ++ (⟨#[59]⟩ : ByteArray))) else (none))) = some r := h); clear h; (replace H := Option.bind_eq_some_iff.mp H)
  obtain ⟨t102, A20, H⟩ := H
  (replace H : (if t102.size + 1 ≤ 9223372036854775807 then (some (t102 ++ (⟨#[59]⟩ : ByteArray))) else (none)) = some r := H); (have A2 := Aside0.mk A20); clear A20
  by_cases c3 : t102.size + 1 ≤ 9223372036854775807
  · rw [if_pos c3] at H
    (have c3b0 := eq_true c3); (have c3b1 : decide (t102.size + 1 ≤ 9223372036854775807) = true := decide_eq_true c3); (try have c3b2 : (9223372036854775807 < t102.size + 1) = False := eq_false (Nat.not_lt.2 c3))
    obtain rfl := Option.some.inj H
    (go_enter Tryd.func63, Tryd.ntmps63); (go_wp2_with (first | ((with_reducible refine gate_callee (f := 99) rfl ?_); refine goesL_ (some 4) rfl rfl Tryd.func99 (by kernel_rfl) rfl #[.int .i64 a0] rfl (by (try simp only [List.map_toArray, List.map_cons, List.map_nil]); first | done | rfl | (simp only [List.length_drop, List.length_take]; rfl)) ?_; (with_reducible refine (strconv_Itoa.calls a0 t102 _ (by first | ((repeat (first | exact HG_.out | apply GW.drewN | apply GW.drew | apply GW.alloc)); done) | exact GW.below HG_.out (by repeat (first | (with_reducible first | exact HB.out | apply below_alloc | apply pw_below_drewN | apply below_drew1) | exact HB.out))) A2.out).mono ?_); rintro e w4 ⟨rfl, hb⟩; refine ⟨_, rfl, ?_⟩; have n0_ := Aside0.mk (below_step (by repeat (first | (with_reducible first | exact HB.out | apply below_alloc | apply pw_below_drewN | apply below_drew1) | exact HB.out)) hb); clear HB; have HB := n0_; clear n0_; (try clear hb); (try clear hb2); (try clear hk); (try clear hi)))); (go_ret); (exact ⟨by first | rfl | (simp [errW_none, errW_some] <;> rfl) | (simp [*, errW_none, errW_some] <;> rfl), by repeat (first | (with_reducible first | exact HB.out | apply below_alloc | apply pw_below_drewN | apply below_drew1) | exact HB.out)⟩)
  · rw [if_neg c3] at H
    (exact absurd H (by simp))

/-! ### piece_Salt: function 26 -/
def piece_Salt.f (a0 : ByteArray) (a1 : ByteArray) (a2 : Int) : Option (ByteArray) := (wire_Text.f a1).bind fun t103 => ((wire_Int.f a2).bind fun t104 => (if t103.size + t104.size ≤ 9223372036854775807 then ((digest_Mac.f a0 (t103 ++ t104)).bind fun t105 => (if 0 ≤ (mn (t105.size : Int) 16) then (if (mn (t105.size : Int) 16) ≤ (t105.size : Int) then (some (t105.extract 0 ((mn (t105.size : Int) 16) : Int).toNat)) else (none)) else (none))) else (none)))
set_option maxHeartbeats 8000000 in
set_option maxRecDepth 100000 in
theorem piece_Salt.calls (a0 : ByteArray) (a1 : ByteArray) (a2 : Int) (r : ByteArray) (w : World) (hG : GW w) (h : piece_Salt.f a0 a1 a2 = some r) :
    Calls Tryd.prog 26 #[.string a0, .string a1, .int .i64 a2] w fun e w' => e = .returned (.string r) ∧ Below w.heap.size w w' := by
  (have HG_ := Aside0.mk hG); clear hG; (have HB := Aside0.mk (Below.refl w.heap.size w)); (have H : ((wire_Text.f a1).bind fun t103 => ((wire_Int.f a2).bind fun t104 => (if t103.size + t104.size ≤ 9223372036854775807 then ((digest_Mac.f a0 (t103 ++ t104)).bind fun t105 => (if 0 ≤ (mn (t105.size : Int) 16) then (if (mn (t105.size : Int) 16) ≤ (t105.size : Int) then (some (t105.extract 0 ((mn (t105.size : Int) 16) : Int).toNat)) else (none)) else (none))) else (none)))) = some r := h); clear h; (replace H := Option.bind_eq_some_iff.mp H)
  obtain ⟨t103, A40, H⟩ := H
  (replace H : ((wire_Int.f a2).bind fun t104 => (if t103.size + t104.size ≤ 9223372036854775807 then ((digest_Mac.f a0 (t103 ++ t104)).bind fun t105 => (if 0 ≤ (mn (t105.size : Int) 16) then (if (mn (t105.size : Int) 16) ≤ (t105.size : Int) then (some (t105.extract 0 ((mn (t105.size : Int) 16) : Int).toNat)) else (none)) else (none))) else (none))) = some r := H); (have A4 := Aside0.mk A40); clear A40; (replace H := Option.bind_eq_some_iff.mp H)
  obtain ⟨t104, A50, H⟩ := H
  (replace H : (if t103.size + t104.size ≤ 9223372036854775807 then ((digest_Mac.f a0 (t103 ++ t104)).bind fun t105 => (if 0 ≤ (mn (t105.size : Int) 16) then (if (mn (t105.size : Int) 16) ≤ (t105.size : Int) then (some (t105.extract 0 ((mn (t105.size : Int) 16) : Int).toNat)) else (none)) else (none))) else (none)) = some r := H); (have A5 := Aside0.mk A50); clear A50
  by_cases c6 : t103.size + t104.size ≤ 9223372036854775807
  · rw [if_pos c6] at H
    (have c6b0 := eq_true c6); (have c6b1 : decide (t103.size + t104.size ≤ 9223372036854775807) = true := decide_eq_true c6); (try have c6b2 : (9223372036854775807 < t103.size + t104.size) = False := eq_false (Nat.not_lt.2 c6)); (replace H := Option.bind_eq_some_iff.mp H)
    obtain ⟨t105, A70, H⟩ := H
    (replace H : (if 0 ≤ (mn (t105.size : Int) 16) then (if (mn (t105.size : Int) 16) ≤ (t105.size : Int) then (some (t105.extract 0 ((mn (t105.size : Int) 16) : Int).toNat)) else (none)) else (none)) = some r := H); (have A7 := Aside0.mk A70); clear A70
    obtain ⟨ji8, hji8⟩ : ∃ j_ : Int, (mn (t105.size : Int) 16) = j_ := ⟨_, rfl⟩
    (replace H : (if 0 ≤ (ji8) then (if (ji8) ≤ (t105.size : Int) then (some (t105.extract 0 ((ji8) : Int).toNat)) else (none)) else (none)) = some r := by first | (rw [hji8] at H; exact H) | (simp only [hji8] at H ⊢; exact H)); (try rw [hji8] at A4); (try rw [hji8] at A5); (try rw [hji8] at A7); (try (have hji8h : ji8 ≤ 16 := by (rw [← hji8]; unfold mn; (repeat' split) <;> omega))); (try (have hji8g : ji8 ≤ 64 := by omega)); (try (have hji8l : 0 ≤ ji8 := by (rw [← hji8]; unfold mn; (repeat' split) <;> omega))); (try (have hji8m : 0 ≤ ji8 := by omega)); (have hji8_ : (if 16 < (t105.size : Int) then 16 else (t105.size : Int)) = ji8 := hji8)
    by_cases c9 : 0 ≤ (ji8)
    · rw [if_pos c9] at H
      (have c9b0 := eq_true c9); (have c9b1 : decide (0 ≤ (ji8)) = true := decide_eq_true c9); clear c9
      by_cases c10 : (ji8) ≤ (t105.size : Int)
      · rw [if_pos c10] at H
        (have c10b0 := eq_true c10); (have c10b1 : decide ((ji8) ≤ (t105.size : Int)) = true := decide_eq_true c10); clear c10
        obtain rfl := Option.some.inj H
        (go_enter Tryd.func26, Tryd.ntmps26); (go_wp2_with (first | ((with_reducible refine gate_callee (f := 62) rfl ?_); refine goesL_ (some 10) rfl rfl Tryd.func62 (by kernel_rfl) rfl #[.string a1] rfl (by (try simp only [List.map_toArray, List.map_cons, List.map_nil]); first | done | rfl | (simp only [List.length_drop, List.length_take]; rfl)) ?_; (with_reducible refine (wire_Text.calls a1 t103 _ (by first | ((repeat (first | exact HG_.out | apply GW.drewN | apply GW.drew | apply GW.alloc)); done) | exact GW.below HG_.out (by repeat (first | (with_reducible first | exact HB.out | apply below_alloc | apply pw_below_drewN | apply below_drew1) | exact HB.out))) A4.out).mono ?_); rintro e w11 ⟨rfl, hb⟩; refine ⟨_, rfl, ?_⟩; have n0_ := Aside0.mk (below_step (by repeat (first | (with_reducible first | exact HB.out | apply below_alloc | apply pw_below_drewN | apply below_drew1) | exact HB.out)) hb); clear HB; have HB := n0_; clear n0_; (try clear hb); (try clear hb2); (try clear hk); (try clear hi)) | ((with_reducible refine gate_callee (f := 63) rfl ?_); refine goesL_ (some 12) rfl rfl Tryd.func63 (by kernel_rfl) rfl #[.int .i64 a2] rfl (by (try simp only [List.map_toArray, List.map_cons, List.map_nil]); first | done | rfl | (simp only [List.length_drop, List.length_take]; rfl)) ?_; (with_reducible refine (wire_Int.calls a2 t104 _ (by first | ((repeat (first | exact HG_.out | apply GW.drewN | apply GW.drew | apply GW.alloc)); done) | exact GW.below HG_.out (by repeat (first | (with_reducible first | exact HB.out | apply below_alloc | apply pw_below_drewN | apply below_drew1) | exact HB.out))) A5.out).mono ?_); rintro e w12 ⟨rfl, hb⟩; refine ⟨_, rfl, ?_⟩; have n0_ := Aside0.mk (below_step (by repeat (first | (with_reducible first | exact HB.out | apply below_alloc | apply pw_below_drewN | apply below_drew1) | exact HB.out)) hb); clear HB; have HB := n0_; clear n0_; (try clear hb); (try clear hb2); (try clear hk); (try clear hi)) | ((with_reducible refine gate_callee (f := 61) rfl ?_); refine goesL_ (some 14) rfl rfl Tryd.func61 (by kernel_rfl) rfl #[.string a0, .string (t103 ++ t104)] rfl (by (try simp only [List.map_toArray, List.map_cons, List.map_nil]); first | done | rfl | (simp only [List.length_drop, List.length_take]; rfl)) ?_; (with_reducible refine (digest_Mac.calls a0 (t103 ++ t104) t105 _ (by first | ((repeat (first | exact HG_.out | apply GW.drewN | apply GW.drew | apply GW.alloc)); done) | exact GW.below HG_.out (by repeat (first | (with_reducible first | exact HB.out | apply below_alloc | apply pw_below_drewN | apply below_drew1) | exact HB.out))) A7.out).mono ?_); rintro e w13 ⟨rfl, hb⟩; refine ⟨_, rfl, ?_⟩; have n0_ := Aside0.mk (below_step (by repeat (first | (with_reducible first | exact HB.out | apply below_alloc | apply pw_below_drewN | apply below_drew1) | exact HB.out)) hb); clear HB; have HB := n0_; clear n0_; (try clear hb); (try clear hb2); (try clear hk); (try clear hi)))); (go_ret); (exact ⟨by first | rfl | (simp [errW_none, errW_some] <;> rfl) | (simp only [← hji8]; first | rfl | (simp [errW_none, errW_some] <;> rfl)) | (simp [*, errW_none, errW_some] <;> rfl), by repeat (first | (with_reducible first | exact HB.out | apply below_alloc | apply pw_below_drewN | apply below_drew1) | exact HB.out)⟩)
      · rw [if_neg c10] at H
        (exact absurd H (by simp))
    · rw [if_neg c9] at H
      (exact absurd H (by simp))
  · rw [if_neg c6] at H
    (exact absurd H (by simp))

/-! ### stringslite_Index: function 123 -/
def stringslite_Index.f (a0 a1 : ByteArray) : Option Int := if a1.size = 1 then some (Lib.indexByte a0.data.toList (a1.data.toList.headD 0)) else none
theorem stringslite_Index.calls (a0 a1 : ByteArray) (r : Int) (w : World) (hG : GW w) (h : stringslite_Index.f a0 a1 = some r) :
    Calls Tryd.prog 123 #[.string a0, .string a1] w fun e w' => e = .returned (.int .i64 r) ∧ Drawn0 w w' := by
  (unfold stringslite_Index.f at h)
  by_cases h1 : a1.size = 1
  · rw [if_pos h1] at h
    obtain rfl := Option.some.inj h
    obtain ⟨c, rfl⟩ : ∃ c : UInt8, a1 = ⟨#[c]⟩ := by
      obtain ⟨⟨l⟩⟩ := a1
      match l, h1 with
      | [c], _ => exact ⟨c, rfl⟩
    (exact (Tryd.stringslite_Index_one a0 c w).mono fun e w' ⟨he, hw⟩ => ⟨he, by rw [hw]; exact Drawn0.refl w⟩)
  · rw [if_neg h1] at h
    cases h

/-! ### stringslite_Cut: function 95 -/
def stringslite_Cut.f (a0 : ByteArray) (a1 : ByteArray) : Option (ByteArray × ByteArray × Bool) := (stringslite_Index.f a0 a1).bind fun t106 => (if t106 ≥ 0 then (if 0 ≤ t106 then (if t106 ≤ (a0.size : Int) then (if 0 ≤ (wrap64 (t106 + (a1.size : Int))) then (if (wrap64 (t106 + (a1.size : Int))) ≤ (a0.size : Int) then (some (a0.extract 0 (t106 : Int).toNat, a0.extract ((wrap64 (t106 + (a1.size : Int))) : Int).toNat a0.size, true)) else (none)) else (none)) else (none)) else (none)) else (some (a0, (⟨#[]⟩ : ByteArray), false)))
set_option maxHeartbeats 8000000 in
set_option maxRecDepth 100000 in
theorem stringslite_Cut.calls (a0 : ByteArray) (a1 : ByteArray) (r1 : ByteArray) (r2 : ByteArray) (r3 : Bool) (w : World) (hG : GW w) (h : stringslite_Cut.f a0 a1 = some (r1, r2, r3)) :
    Calls Tryd.prog 95 #[.string a0, .string a1] w fun e w' => e = .returned (.tuple #[.string r1, .string r2, .bool r3]) ∧ Drawn0 w w' := by
  (have HG_ := Aside0.mk hG); clear hG; (have H : ((stringslite_Index.f a0 a1).bind fun t106 => (if t106 ≥ 0 then (if 0 ≤ t106 then (if t106 ≤ (a0.size : Int) then (if 0 ≤ (wrap64 (t106 + (a1.size : Int))) then (if (wrap64 (t106 + (a1.size : Int))) ≤ (a0.size : Int) then (some (a0.extract 0 (t106 : Int).toNat, a0.extract ((wrap64 (t106 + (a1.size : Int))) : Int).toNat a0.size, true)) else (none)) else (none)) else (none)) else (none)) else (some (a0, (⟨#[]⟩ : ByteArray), false)))) = some (r1, r2, r3) := h); clear h; (replace H := Option.bind_eq_some_iff.mp H)
  obtain ⟨t106, A30, H⟩ := H
  (replace H : (if t106 ≥ 0 then (if 0 ≤ t106 then (if t106 ≤ (a0.size : Int) then (if 0 ≤ (wrap64 (t106 + (a1.size : Int))) then (if (wrap64 (t106 + (a1.size : Int))) ≤ (a0.size : Int) then (some (a0.extract 0 (t106 : Int).toNat, a0.extract ((wrap64 (t106 + (a1.size : Int))) : Int).toNat a0.size, true)) else (none)) else (none)) else (none)) else (none)) else (some (a0, (⟨#[]⟩ : ByteArray), false))) = some (r1, r2, r3) := H); (have A3 := Aside0.mk A30); clear A30
  by_cases c4 : t106 ≥ 0
  · rw [if_pos c4] at H
    (have c4b0 : decide (0 ≤ t106) = true := decide_eq_true c4); clear c4
    by_cases c5 : 0 ≤ t106
    · rw [if_pos c5] at H
      (have c5b0 := eq_true c5); (have c5b1 : decide (0 ≤ t106) = true := decide_eq_true c5); clear c5
      by_cases c6 : t106 ≤ (a0.size : Int)
      · rw [if_pos c6] at H
        (have c6b0 := eq_true c6); (have c6b1 : decide (t106 ≤ (a0.size : Int)) = true := decide_eq_true c6); clear c6
        obtain ⟨ji7, hji7⟩ : ∃ j_ : Int, (wrap64 (t106 + (a1.size : Int))) = j_ := ⟨_, rfl⟩
        (replace H : (if 0 ≤ (ji7) then (if (ji7) ≤ (a0.size : Int) then (some (a0.extract 0 (t106 : Int).toNat, a0.extract ((ji7) : Int).toNat a0.size, true)) else (none)) else (none)) = some (r1, r2, r3) := by first | (rw [hji7] at H; exact H) | (simp only [hji7] at H ⊢; exact H)); (try rw [hji7] at A3); (have hji7w : (IntKind.i64.wrap (t106 + (a1.size : Int))) = ji7 := (i64_w _).trans hji7)
        by_cases c8 : 0 ≤ (ji7)
        · rw [if_pos c8] at H
          (have c8b0 := eq_true c8); (have c8b1 : decide (0 ≤ (ji7)) = true := decide_eq_true c8); clear c8
          by_cases c9 : (ji7) ≤ (a0.size : Int)
          · rw [if_pos c9] at H
            (have c9b0 := eq_true c9); (have c9b1 : decide ((ji7) ≤ (a0.size : Int)) = true := decide_eq_true c9); clear c9; (simp only [Option.some.injEq, Prod.mk.injEq] at H)
            obtain ⟨rfl, rfl, rfl⟩ := H
            (go_enter Tryd.func95, Tryd.ntmps95); (go_wp2_with (first | (go_at_call 123; (with_reducible refine (stringslite_Index.calls a0 a1 t106 _ (by first | ((repeat (first | exact HG_.out | apply GW.drewN | apply GW.drew | apply GW.alloc)); done) | exact GW.below HG_.out (exact (Below.refl _ _))) A3.out).mono ?_); rintro e w' ⟨rfl, ⟨nd, rfl⟩⟩; (try first | exact ⟨rfl, _, World.drewN_drewN _ _ _⟩ | exact ⟨rfl, _, Eq.trans (World.drewN_drewN _ _ _) (congrArg (World.drewN _) (Nat.add_assoc _ _ _))⟩)))); (repeat (go_quiet (first | (go_at_call 123; (with_reducible refine (stringslite_Index.calls a0 a1 t106 _ (by first | ((repeat (first | exact HG_.out | apply GW.drewN | apply GW.drew | apply GW.alloc)); done) | exact GW.below HG_.out (exact (Below.refl _ _))) A3.out).mono ?_); rintro e w' ⟨rfl, ⟨nd, rfl⟩⟩; (try first | exact ⟨rfl, _, World.drewN_drewN _ _ _⟩ | exact ⟨rfl, _, Eq.trans (World.drewN_drewN _ _ _) (congrArg (World.drewN _) (Nat.add_assoc _ _ _))⟩))); try go_wp2_with (first | (go_at_call 123; (with_reducible refine (stringslite_Index.calls a0 a1 t106 _ (by first | ((repeat (first | exact HG_.out | apply GW.drewN | apply GW.drew | apply GW.alloc)); done) | exact GW.below HG_.out (exact (Below.refl _ _))) A3.out).mono ?_); rintro e w' ⟨rfl, ⟨nd, rfl⟩⟩; (try first | exact ⟨rfl, _, World.drewN_drewN _ _ _⟩ | exact ⟨rfl, _, Eq.trans (World.drewN_drewN _ _ _) (congrArg (World.drewN _) (Nat.add_assoc _ _ _))⟩))))); (go_ret3); (exact ⟨by first | rfl | (simp; done) | (simp only [← hji7] <;> (first | rfl | simp)) | (simp [*]; done), by repeat (first | exact Drawn0.refl _ | apply Drawn0.step)⟩)
          · rw [if_neg c9] at H
            (exact absurd H (by simp))
        · rw [if_neg c8] at H
          (exact absurd H (by simp))
      · rw [if_neg c6] at H
        (exact absurd H (by simp))
    · rw [if_neg c5] at H
      (exact absurd H (by simp))
  · rw [if_neg c4] at H
    (have c4b0 : decide (0 ≤ t106) = false := decide_eq_false c4); clear c4; (simp only [Option.some.injEq, Prod.mk.injEq] at H)
    obtain ⟨rfl, rfl, rfl⟩ := H
    (go_enter Tryd.func95, Tryd.ntmps95); (go_wp2_with (first | (go_at_call 123; (with_reducible refine (stringslite_Index.calls a0 a1 t106 _ (by first | ((repeat (first | exact HG_.out | apply GW.drewN | apply GW.drew | apply GW.alloc)); done) | exact GW.below HG_.out (exact (Below.refl _ _))) A3.out).mono ?_); rintro e w' ⟨rfl, ⟨nd, rfl⟩⟩; (try first | exact ⟨rfl, _, World.drewN_drewN _ _ _⟩ | exact ⟨rfl, _, Eq.trans (World.drewN_drewN _ _ _) (congrArg (World.drewN _) (Nat.add_assoc _ _ _))⟩)))); (repeat (go_quiet (first | (go_at_call 123; (with_reducible refine (stringslite_Index.calls a0 a1 t106 _ (by first | ((repeat (first | exact HG_.out | apply GW.drewN | apply GW.drew | apply GW.alloc)); done) | exact GW.below HG_.out (exact (Below.refl _ _))) A3.out).mono ?_); rintro e w' ⟨rfl, ⟨nd, rfl⟩⟩; (try first | exact ⟨rfl, _, World.drewN_drewN _ _ _⟩ | exact ⟨rfl, _, Eq.trans (World.drewN_drewN _ _ _) (congrArg (World.drewN _) (Nat.add_assoc _ _ _))⟩))); try go_wp2_with (first | (go_at_call 123; (with_reducible refine (stringslite_Index.calls a0 a1 t106 _ (by first | ((repeat (first | exact HG_.out | apply GW.drewN | apply GW.drew | apply GW.alloc)); done) | exact GW.below HG_.out (exact (Below.refl _ _))) A3.out).mono ?_); rintro e w' ⟨rfl, ⟨nd, rfl⟩⟩; (try first | exact ⟨rfl, _, World.drewN_drewN _ _ _⟩ | exact ⟨rfl, _, Eq.trans (World.drewN_drewN _ _ _) (congrArg (World.drewN _) (Nat.add_assoc _ _ _))⟩))))); (go_ret3); (exact ⟨by first | rfl | (simp; done) | (simp [*]; done), by repeat (first | exact Drawn0.refl _ | apply Drawn0.step)⟩)

/-! ### strings_Cut: function 57 -/
def strings_Cut.f (a0 : ByteArray) (a1 : ByteArray) : Option (ByteArray × ByteArray × Bool) := (stringslite_Cut.f a0 a1).bind fun bt107 => (some (bt107.1, bt107.2.1, bt107.2.2))
set_option maxHeartbeats 8000000 in
set_option maxRecDepth 100000 in
theorem strings_Cut.calls (a0 : ByteArray) (a1 : ByteArray) (r1 : ByteArray) (r2 : ByteArray) (r3 : Bool) (w : World) (hG : GW w) (h : strings_Cut.f a0 a1 = some (r1, r2, r3)) :
    Calls Tryd.prog 57 #[.string a0, .string a1] w fun e w' => e = .returned (.tuple #[.string r1, .string r2, .bool r3]) ∧ Drawn0 w w' := by
  (have HG_ := Aside0.mk hG); clear hG; (have H : ((stringslite_Cut.f a0 a1).bind fun bt107 => (some (bt107.1, bt107.2.1, bt107.2.2))) = some (r1, r2, r3) := h); clear h; (replace H := Option.bind_eq_some_iff.mp H)
  obtain ⟨⟨t107, t108, t109⟩, A30, H⟩ := H
  (replace H : (some (t107, t108, t109)) = some (r1, r2, r3) := H); (have A3 := Aside0.mk A30); clear A30; (simp only [Option.some.injEq, Prod.mk.injEq] at H)
  obtain ⟨rfl, rfl, rfl⟩ := H
  (go_enter Tryd.func57, Tryd.ntmps57); (go_wp2_with (first | ((with_reducible refine gate_callee (f := 95) rfl ?_); refine goesL_ (some 9) rfl rfl Tryd.func95 (by kernel_rfl) rfl #[.string a0, .string a1] rfl (by (try simp only [List.map_toArray, List.map_cons, List.map_nil]); first | done | rfl | (simp only [List.length_drop, List.length_take]; rfl)) ?_; (with_reducible refine (stringslite_Cut.calls a0 a1 t107 t108 t109 _ (by first | ((repeat (first | exact HG_.out | apply GW.drewN | apply GW.drew | apply GW.alloc)); done) | exact GW.below HG_.out (exact (Below.refl _ _))) A3.out).mono ?_); rintro e w' ⟨rfl, ⟨nd, rfl⟩⟩; refine ⟨_, rfl, ?_⟩))); (go_ret3); (exact ⟨by first | rfl | (simp; done) | (simp [*]; done), by repeat (first | exact Drawn0.refl _ | apply Drawn0.step)⟩)

/-! ### stringslite_HasSuffix: function 124 -/
def stringslite_HasSuffix.f (a0 : ByteArray) (a1 : ByteArray) : Option (Bool) := if (a0.size : Int) ≥ (a1.size : Int) then (if 0 ≤ (wrap64 ((a0.size : Int) - (a1.size : Int))) then (if (wrap64 ((a0.size : Int) - (a1.size : Int))) ≤ (a0.size : Int) then (some ((a0.extract ((wrap64 ((a0.size : Int) - (a1.size : Int))) : Int).toNat a0.size).toList == a1.toList)) else (none)) else (none)) else (some false)
set_option maxHeartbeats 8000000 in
set_option maxRecDepth 100000 in
theorem stringslite_HasSuffix.calls (a0 : ByteArray) (a1 : ByteArray) (r : Bool) (w : World) (hG : GW w) (h : stringslite_HasSuffix.f a0 a1 = some r) :
    Calls Tryd.prog 124 #[.string a0, .string a1] w fun e w' => e = .returned (.bool r) ∧ Drawn0 w w' := by
  (have HG_ := Aside0.mk hG); clear hG; (have H : (if (a0.size : Int) ≥ (a1.size : Int) then (if 0 ≤ (wrap64 ((a0.size : Int) - (a1.size : Int))) then (if (wrap64 ((a0.size : Int) - (a1.size : Int))) ≤ (a0.size : Int) then (some ((a0.extract ((wrap64 ((a0.size : Int) - (a1.size : Int))) : Int).toNat a0.size).toList == a1.toList)) else (none)) else (none)) else (some false)) = some r := h); clear h
  by_cases c3 : (a0.size : Int) ≥ (a1.size : Int)
  · rw [if_pos c3] at H
    (have c3b0 : decide ((a1.size : Int) ≤ (a0.size : Int)) = true := decide_eq_true c3); (have c3b1 : decide (a1.size ≤ a0.size) = true := decide_eq_true (Int.ofNat_le.mp c3)); clear c3
    obtain ⟨ji4, hji4⟩ : ∃ j_ : Int, (wrap64 ((a0.size : Int) - (a1.size : Int))) = j_ := ⟨_, rfl⟩
    (replace H : (if 0 ≤ (ji4) then (if (ji4) ≤ (a0.size : Int) then (some ((a0.extract ((ji4) : Int).toNat a0.size).toList == a1.toList)) else (none)) else (none)) = some r := by first | (rw [hji4] at H; exact H) | (simp only [hji4] at H ⊢; exact H)); (have hji4w : (IntKind.i64.wrap ((a0.size : Int) - (a1.size : Int))) = ji4 := (i64_w _).trans hji4)
    by_cases c5 : 0 ≤ (ji4)
    · rw [if_pos c5] at H
      (have c5b0 := eq_true c5); (have c5b1 : decide (0 ≤ (ji4)) = true := decide_eq_true c5); clear c5
      by_cases c6 : (ji4) ≤ (a0.size : Int)
      · rw [if_pos c6] at H
        (have c6b0 := eq_true c6); (have c6b1 : decide ((ji4) ≤ (a0.size : Int)) = true := decide_eq_true c6); clear c6
        obtain rfl := Option.some.inj H
        (go_enter Tryd.func124, Tryd.ntmps124); go_wp2; (go_ret); (exact ⟨by first | rfl | (simp; done) | (simp only [← hji4] <;> (first | rfl | simp)) | (simp [*]; done), by repeat (first | exact Drawn0.refl _ | apply Drawn0.step)⟩)
      · rw [if_neg c6] at H
        (exact absurd H (by simp))
    · rw [if_neg c5] at H
      (exact absurd H (by simp))
  · rw [if_neg c3] at H
    (have c3b0 : decide ((a1.size : Int) ≤ (a0.size : Int)) = false := decide_eq_false c3); (have c3b1 : decide (a1.size ≤ a0.size) = false := decide_eq_false (fun h => c3 (Int.ofNat_le.mpr h))); clear c3
    obtain rfl := Option.some.inj H
    (go_enter Tryd.func124, Tryd.ntmps124); go_wp2; (go_ret); (exact ⟨by first | rfl | (simp; done) | (simp [*]; done), by repeat (first | exact Drawn0.refl _ | apply Drawn0.step)⟩)

/-! ### stringslite_TrimSuffix: function 96 -/
def stringslite_TrimSuffix.f (a0 : ByteArray) (a1 : ByteArray) : Option (ByteArray) := (stringslite_HasSuffix.f a0 a1).bind fun t110 => (if t110 = true then (if 0 ≤ (wrap64 ((a0.size : Int) - (a1.size : Int))) then (if (wrap64 ((a0.size : Int) - (a1.size : Int))) ≤ (a0.size : Int) then (some (a0.extract 0 ((wrap64 ((a0.size : Int) - (a1.size : Int))) : Int).toNat)) else (none)) else (none)) else (some a0))
set_option maxHeartbeats 8000000 in
set_option maxRecDepth 100000 in
theorem stringslite_TrimSuffix.calls (a0 : ByteArray) (a1 : ByteArray) (r : ByteArray) (w : World) (hG : GW w) (h : stringslite_TrimSuffix.f a0 a1 = some r) :
    Calls Tryd.prog 96 #[.string a0, .string a1] w fun e w' => e = .returned (.string r) ∧ Drawn0 w w' := by
  (have HG_ := Aside0.mk hG); clear hG; (have H : ((stringslite_HasSuffix.f a0 a1).bind fun t110 => (if t110 = true then (if 0 ≤ (wrap64 ((a0.size : Int) - (a1.size : Int))) then (if (wrap64 ((a0.size : Int) - (a1.size : Int))) ≤ (a0.size : Int) then (some (a0.extract 0 ((wrap64 ((a0.size : Int) - (a1.size : Int))) : Int).toNat)) else (none)) else (none)) else (some a0))) = some r := h); clear h; (replace H := Option.bind_eq_some_iff.mp H)
  obtain ⟨t110, A30, H⟩ := H
  (replace H : (if t110 = true then (if 0 ≤ (wrap64 ((a0.size : Int) - (a1.size : Int))) then (if (wrap64 ((a0.size : Int) - (a1.size : Int))) ≤ (a0.size : Int) then (some (a0.extract 0 ((wrap64 ((a0.size : Int) - (a1.size : Int))) : Int).toNat)) else (none)) else (none)) else (some a0)) = some r := H); (have A3 := Aside0.mk A30); clear A30
  by_cases c4 : t110 = true
  · subst c4
    (have H1 : (if 0 ≤ (wrap64 ((a0.size : Int) - (a1.size : Int))) then (if (wrap64 ((a0.size : Int) - (a1.size : Int))) ≤ (a0.size : Int) then (some (a0.extract 0 ((wrap64 ((a0.size : Int) - (a1.size : Int))) : Int).toNat)) else (none)) else (none)) = some r := by rw [if_pos rfl] at H; exact H); clear H; (have H := H1); clear H1
    obtain ⟨ji5, hji5⟩ : ∃ j_ : Int, (wrap64 ((a0.size : Int) - (a1.size : Int))) = j_ := ⟨_, rfl⟩
    (replace H : (if 0 ≤ (ji5) then (if (ji5) ≤ (a0.size : Int) then (some (a0.extract 0 ((ji5) : Int).toNat)) else (none)) else (none)) = some r := by first | (rw [hji5] at H; exact H) | (simp only [hji5] at H ⊢; exact H)); (try rw [hji5] at A3); (have hji5w : (IntKind.i64.wrap ((a0.size : Int) - (a1.size : Int))) = ji5 := (i64_w _).trans hji5)
    by_cases c6 : 0 ≤ (ji5)
    · rw [if_pos c6] at H
      (have c6b0 := eq_true c6); (have c6b1 : decide (0 ≤ (ji5)) = true := decide_eq_true c6); clear c6
      by_cases c7 : (ji5) ≤ (a0.size : Int)
      · rw [if_pos c7] at H
        (have c7b0 := eq_true c7); (have c7b1 : decide ((ji5) ≤ (a0.size : Int)) = true := decide_eq_true c7); clear c7
        obtain rfl := Option.some.inj H
        (go_enter Tryd.func96, Tryd.ntmps96); (go_wp2_with (first | ((with_reducible refine gate_callee (f := 124) rfl ?_); refine goesL_ (some 7) rfl rfl Tryd.func124 (by kernel_rfl) rfl #[.string a0, .string a1] rfl (by (try simp only [List.map_toArray, List.map_cons, List.map_nil]); first | done | rfl | (simp only [List.length_drop, List.length_take]; rfl)) ?_; (with_reducible refine (stringslite_HasSuffix.calls a0 a1 true _ (by first | ((repeat (first | exact HG_.out | apply GW.drewN | apply GW.drew | apply GW.alloc)); done) | exact GW.below HG_.out (exact (Below.refl _ _))) A3.out).mono ?_); rintro e w' ⟨rfl, ⟨nd, rfl⟩⟩; refine ⟨_, rfl, ?_⟩))); (go_ret); (exact ⟨by first | rfl | (simp; done) | (simp only [← hji5] <;> (first | rfl | simp)) | (simp [*]; done), by repeat (first | exact Drawn0.refl _ | apply Drawn0.step)⟩)
      · rw [if_neg c7] at H
        (exact absurd H (by simp))
    · rw [if_neg c6] at H
      (exact absurd H (by simp))
  · replace c4 := Bool.eq_false_iff.mpr c4
    (subst c4); (have H1 : (some a0) = some r := by rw [if_neg (show ¬ (false = true) by decide)] at H; exact H); clear H; (have H := H1); clear H1
    obtain rfl := Option.some.inj H
    (go_enter Tryd.func96, Tryd.ntmps96); (go_wp2_with (first | ((with_reducible refine gate_callee (f := 124) rfl ?_); refine goesL_ (some 7) rfl rfl Tryd.func124 (by kernel_rfl) rfl #[.string a0, .string a1] rfl (by (try simp only [List.map_toArray, List.map_cons, List.map_nil]); first | done | rfl | (simp only [List.length_drop, List.length_take]; rfl)) ?_; (with_reducible refine (stringslite_HasSuffix.calls a0 a1 false _ (by first | ((repeat (first | exact HG_.out | apply GW.drewN | apply GW.drew | apply GW.alloc)); done) | exact GW.below HG_.out (exact (Below.refl _ _))) A3.out).mono ?_); rintro e w' ⟨rfl, ⟨nd, rfl⟩⟩; refine ⟨_, rfl, ?_⟩))); (go_ret); (exact ⟨by first | rfl | (simp; done) | (simp [*]; done), by repeat (first | exact Drawn0.refl _ | apply Drawn0.step)⟩)

/-! ### strings_TrimSuffix: function 58 -/
def strings_TrimSuffix.f (a0 : ByteArray) (a1 : ByteArray) : Option (ByteArray) := (stringslite_TrimSuffix.f a0 a1).bind fun t111 => (some t111)
set_option maxHeartbeats 8000000 in
set_option maxRecDepth 100000 in
theorem strings_TrimSuffix.calls (a0 : ByteArray) (a1 : ByteArray) (r : ByteArray) (w : World) (hG : GW w) (h : strings_TrimSuffix.f a0 a1 = some r) :
    Calls Tryd.prog 58 #[.string a0, .string a1] w fun e w' => e = .returned (.string r) ∧ Drawn0 w w' := by
  (have HG_ := Aside0.mk hG); clear hG; (have H : ((stringslite_TrimSuffix.f a0 a1).bind fun t111 => (some t111)) = some r := h); clear h; (replace H := Option.bind_eq_some_iff.mp H)
  obtain ⟨t111, A30, H⟩ := H
  (replace H : (some t111) = some r := H); (have A3 := Aside0.mk A30); clear A30
  obtain rfl := Option.some.inj H
  (go_enter Tryd.func58, Tryd.ntmps58); (go_wp2_with (first | ((with_reducible refine gate_callee (f := 96) rfl ?_); refine goesL_ (some 7) rfl rfl Tryd.func96 (by kernel_rfl) rfl #[.string a0, .string a1] rfl (by (try simp only [List.map_toArray, List.map_cons, List.map_nil]); first | done | rfl | (simp only [List.length_drop, List.length_take]; rfl)) ?_; (with_reducible refine (stringslite_TrimSuffix.calls a0 a1 t111 _ (by first | ((repeat (first | exact HG_.out | apply GW.drewN | apply GW.drew | apply GW.alloc)); done) | exact GW.below HG_.out (exact (Below.refl _ _))) A3.out).mono ?_); rintro e w' ⟨rfl, ⟨nd, rfl⟩⟩; refine ⟨_, rfl, ?_⟩))); (go_ret); (exact ⟨by first | rfl | (simp; done) | (simp [*]; done), by repeat (first | exact Drawn0.refl _ | apply Drawn0.step)⟩)

/-! ### text_Lines: function 22 -/
def text_Lines.l0 : Nat → ByteArray → List ByteArray → Option (List ByteArray)
  | 0, _, _ => none
  | k + 1, x0, x3 => if x0.toList = ([] : List UInt8) then (some x3) else ((strings_Cut.f x0 (⟨#[10]⟩ : ByteArray)).bind fun bt112 => (if bt112.2.2 = true then ((strings_TrimSuffix.f bt112.1 (⟨#[13]⟩ : ByteArray)).bind fun t115 => (if x3.length < 8796093022208 then (text_Lines.l0 k bt112.2.1 (x3 ++ [t115])) else (none))) else (if x3.length < 8796093022208 then (text_Lines.l0 k bt112.2.1 (x3 ++ [bt112.1])) else (none))))
def text_Lines.f (k : Nat) (a0 : ByteArray) : Option (List ByteArray) := text_Lines.l0 k a0 ([] : List ByteArray)
theorem text_Lines.mono_l : ∀ k, (∀ y0 y1, LeO (text_Lines.l0 k y0 y1) (text_Lines.l0 (k + 1) y0 y1))
  | 0 => fun _ _ r h => by simp [text_Lines.l0] at h
  | k + 1 => by
    have ih0 := text_Lines.mono_l k
    · intro y0 y1
      unfold text_Lines.l0
      repeat' first
      | (with_reducible exact ih0 _ _)
      | (with_reducible exact LeO.refl _)
      | (with_reducible exact LeO.none _)
      | (with_reducible refine LeO.ite ?_ ?_)
      | (with_reducible refine LeO.bind ?_ (fun _ => ?_))
      | exact ih0 _ _
      | exact LeO.none _
      | refine LeO.ite ?_ ?_
      | refine LeO.bind ?_ (fun _ => ?_)
theorem text_Lines.mono : ∀ a0 k, LeO (text_Lines.f k a0) (text_Lines.f (k + 1) a0) := by
  intro a0 k
  have ih0 := text_Lines.mono_l k
  unfold text_Lines.f
  repeat' first
      | (with_reducible exact ih0 _ _)
      | (with_reducible exact LeO.refl _)
      | (with_reducible exact LeO.none _)
      | (with_reducible refine LeO.ite ?_ ?_)
      | (with_reducible refine LeO.bind ?_ (fun _ => ?_))
      | exact ih0 _ _
      | exact LeO.none _
      | refine LeO.ite ?_ ?_
      | refine LeO.bind ?_ (fun _ => ?_)
set_option maxHeartbeats 8000000 in
set_option maxRecDepth 100000 in
theorem text_Lines.calls (k : Nat) (a0 : ByteArray) (r : List ByteArray) (w : World) (hG : GW w) (h : text_Lines.f k a0 = some r) :
    Calls Tryd.prog 22 #[.string a0] w fun e w' => ∃ v0_ : Value, e = .returned (v0_) ∧ Kd.R Kd.string 9 w' w.heap.size (fun _ => True) v0_ r ∧ Below w.heap.size w w' := by
  (have HG_ := Aside0.mk hG); clear hG; (have HB := Aside0.mk (Below.refl w.heap.size w)); (have H : (text_Lines.l0 k a0 ([] : List ByteArray)) = some r := h); clear h; (have H' := Aside0.mk H); clear H; (go_enter Tryd.func22, Tryd.ntmps22); go_wp2; (go_loopg [0, 3] k (fun kq v0 v3 w' => ∃ (x0_1 : ByteArray) (x3_1 : List ByteArray), v0 = .string x0_1 ∧ Aside0 (text_Lines.l0 kq x0_1 x3_1 = some r) ∧ Aside0 (kq ≤ k) ∧ Aside0 (Kd.R Kd.string 9 w' w.heap.size (fun _ => True) v3 x3_1) ∧ Aside0 (Below w.heap.size w w')))
  case atStart => exact ⟨(a0), (([] : List ByteArray)), (by first | rfl | (simp; done) | (simp [*]; done)), H', ⟨Nat.le_refl _⟩, ⟨by first | exact Kd.R_nil _ _ _ _ _ | exact Kd.N_nil _ _ _ _ _ | exact Kd.V_nil _ _ _ _ _ | exact Kd.Q_nil _ _ _ _ _ | exact Kd.S_nil _ _ _ _ _⟩, ⟨by repeat (first | (with_reducible first | exact HB.out | apply below_alloc | apply pw_below_drewN | apply below_drew1) | exact HB.out)⟩⟩
  case round =>
    (clear H')
    obtain ⟨x0_1, x3_1, rfl, HA, HK1, HO_3, HB⟩ := hrel
    cases gk with
    | zero => exact absurd HA.out (by simp [text_Lines.l0])
    | succ k1 =>
      (have H := HA.out); clear HA; (simp only [text_Lines.l0] at H)
      by_cases c2 : x0_1.toList = ([] : List UInt8)
      · rw [if_pos c2] at H
        (have c2b0 : (x0_1.toList == ([] : List UInt8)) = true := beq_iff_eq.mpr c2); (have c2b1 : (x0_1.toList != ([] : List UInt8)) = false := bne_eq_false_iff_eq.mpr c2); clear c2
        obtain rfl := Option.some.inj H
        go_wp2; (go_ret); (exact ⟨_, by first | rfl | (simp [errW_none, errW_some] <;> rfl) | (simp [*, errW_none, errW_some] <;> rfl), by (with_reducible repeat (first | apply Kd.R_alloc | apply Kd.R_drewN | apply Kd.R_drew)); exact HO_3.out, by repeat (first | (with_reducible first | exact HB.out | apply below_alloc | apply pw_below_drewN | apply below_drew1) | exact HB.out)⟩)
      · rw [if_neg c2] at H
        (have c2b0 : (x0_1.toList == ([] : List UInt8)) = false := beq_eq_false_iff_ne.mpr c2); (have c2b1 : (x0_1.toList != ([] : List UInt8)) = true := bne_iff_ne.mpr c2); (replace H := Option.bind_eq_some_iff.mp H)
        obtain ⟨⟨t112, t113, t114⟩, A30, H⟩ := H
        (replace H : (if t114 = true then ((strings_TrimSuffix.f t112 (⟨#[13]⟩ : ByteArray)).bind fun t115 => (if x3_1.length < 8796093022208 then (text_Lines.l0 k1 t113 (x3_1 ++ [t115])) else (none))) else (if x3_1.length < 8796093022208 then (text_Lines.l0 k1 t113 (x3_1 ++ [t112])) else (none))) = some r := H); (have A3 := Aside0.mk A30); clear A30
        by_cases c4 : t114 = true
        · subst c4
          (have H1 : ((strings_TrimSuffix.f t112 (⟨#[13]⟩ : ByteArray)).bind fun t115 => (if x3_1.length < 8796093022208 then (text_Lines.l0 k1 t113 (x3_1 ++ [t115])) else (none))) = some r := by rw [if_pos rfl] at H; exact H); clear H; (have H := H1); clear H1; (replace H := Option.bind_eq_some_iff.mp H)
          obtain ⟨t115, A50, H⟩ := H
          (replace H : (if x3_1.length < 8796093022208 then (text_Lines.l0 k1 t113 (x3_1 ++ [t115])) else (none)) = some r := H); (have A5 := Aside0.mk A50); clear A50
          by_cases c6 : x3_1.length < 8796093022208
          · rw [if_pos c6] at H
            (have LMc6 := Aside0.mk c6); clear c6
            obtain ⟨y116, hy116⟩ : ∃ y_ : List ByteArray, y_ = (x3_1 ++ [t115]) := ⟨_, rfl⟩
            (replace H : (text_Lines.l0 k1 t113 y116) = some r := by first | (rw [hy116]; with_reducible exact H) | (have H2_ := (Option.bind_some _ _).symm.trans H; rw [hy116]; with_reducible exact H2_) | (have H2_ := (Option.bind_some _ _).symm.trans H; with_reducible exact H2_) | with_reducible exact H | (rw [hy116]; exact H) | exact H); (have Ny116 := Aside0.mk hy116); clear hy116; (have H' := Aside0.mk H); clear H; (go_wp2_with (first | ((with_reducible refine gate_callee (f := 57) rfl ?_); refine goesL_ (some 11) rfl rfl Tryd.func57 (by kernel_rfl) rfl #[.string x0_1, .string (⟨#[10]⟩ : ByteArray)] rfl (by (try simp only [List.map_toArray, List.map_cons, List.map_nil]); first | done | rfl | (simp only [List.length_drop, List.length_take]; rfl)) ?_; (with_reducible refine (strings_Cut.calls x0_1 (⟨#[10]⟩ : ByteArray) t112 t113 true _ (by first | ((repeat (first | exact HG_.out | apply GW.drewN | apply GW.drew | apply GW.alloc)); done) | exact GW.below HG_.out (by repeat (first | (with_reducible first | exact HB.out | apply below_alloc | apply pw_below_drewN | apply below_drew1) | exact HB.out))) A3.out).mono ?_); rintro e w' ⟨rfl, ⟨nd, rfl⟩⟩; refine ⟨_, rfl, ?_⟩) | ((with_reducible refine gate_callee (f := 58) rfl ?_); refine goesL_ (some 17) rfl rfl Tryd.func58 (by kernel_rfl) rfl #[.string t112, .string (⟨#[13]⟩ : ByteArray)] rfl (by (try simp only [List.map_toArray, List.map_cons, List.map_nil]); first | done | rfl | (simp only [List.length_drop, List.length_take]; rfl)) ?_; (with_reducible refine (strings_TrimSuffix.calls t112 (⟨#[13]⟩ : ByteArray) t115 _ (by first | ((repeat (first | exact HG_.out | apply GW.drewN | apply GW.drew | apply GW.alloc)); done) | exact GW.below HG_.out (by repeat (first | (with_reducible first | exact HB.out | apply below_alloc | apply pw_below_drewN | apply below_drew1) | exact HB.out))) A5.out).mono ?_); rintro e w' ⟨rfl, ⟨nd, rfl⟩⟩; refine ⟨_, rfl, ?_⟩) | ((with_reducible refine gate_builtin (b := .append) (xs := #[.tmp 18, .tmp 20]) rfl ?_); at_builtin; refine Kd.R_append Kd.string (w0 := w) w.heap.size rfl (.tmp 18) (.tmp 20) 22 9 (.string ⟨#[]⟩) 16 rfl Tryd.underlying22 info9 rfl (by decide) (by omega) u3 x3_1 t115 [.string t115] (fun _ => True) (fun _ => False) rfl rfl ?aP (fun _ hk => hk.elim) ?aF ?aO ?aB ?aS ?aL ?_; (case aP => exact rfl); (case aB => exact (by repeat (first | (with_reducible first | exact HB.out | apply below_alloc | apply pw_below_drewN | apply below_drew1) | exact HB.out))); (case aF => exact (fun _ _ => trivial)); (case aO => exact (by (with_reducible repeat (first | apply Kd.R_alloc | apply Kd.R_drewN | apply Kd.R_drew)); exact HO_3.out)); (case aS => exact (below_size (by repeat (first | (with_reducible first | exact HB.out | apply below_alloc | apply pw_below_drewN | apply below_drew1) | exact HB.out)))); (case aL => have := LMc6.out; omega); intro v117 w7 ho hb hg hat; rw [← Ny116.out] at ho; have n0_ := Aside0.mk (hb); have n1_ := Aside0.mk (ho); clear HB; clear HO_3; have HB := n0_; have HO118 := n1_; clear n0_ n1_; clear ho hb hg hat))); (go_roundg k1)
            case measure => have := HK1.out; omega
            case rel => exact ⟨(t113), (y116), (by first | rfl | (simp; done) | (simp [*]; done)), H', ⟨by have := HK1.out; omega⟩, ⟨by (with_reducible repeat (first | apply Kd.R_alloc | apply Kd.R_drewN | apply Kd.R_drew)); exact HO118.out⟩, ⟨by repeat (first | (with_reducible first | exact HB.out | apply below_alloc | apply pw_below_drewN | apply below_drew1) | exact HB.out)⟩⟩
          · rw [if_neg c6] at H
            (exact absurd H (by simp))
        · replace c4 := Bool.eq_false_iff.mpr c4
          (subst c4); (have H1 : (if x3_1.length < 8796093022208 then (text_Lines.l0 k1 t113 (x3_1 ++ [t112])) else (none)) = some r := by rw [if_neg (show ¬ (false = true) by decide)] at H; exact H); clear H; (have H := H1); clear H1
          by_cases c8 : x3_1.length < 8796093022208
          · rw [if_pos c8] at H
            (have LMc8 := Aside0.mk c8); clear c8
            obtain ⟨y119, hy119⟩ : ∃ y_ : List ByteArray, y_ = (x3_1 ++ [t112]) := ⟨_, rfl⟩
            (replace H : (text_Lines.l0 k1 t113 y119) = some r := by first | (rw [hy119]; with_reducible exact H) | (have H2_ := (Option.bind_some _ _).symm.trans H; rw [hy119]; with_reducible exact H2_) | (have H2_ := (Option.bind_some _ _).symm.trans H; with_reducible exact H2_) | with_reducible exact H | (rw [hy119]; exact H) | exact H); (have Ny119 := Aside0.mk hy119); clear hy119; (have H' := Aside0.mk H); clear H; (go_wp2_with (first | ((with_reducible refine gate_callee (f := 57) rfl ?_); refine goesL_ (some 11) rfl rfl Tryd.func57 (by kernel_rfl) rfl #[.string x0_1, .string (⟨#[10]⟩ : ByteArray)] rfl (by (try simp only [List.map_toArray, List.map_cons, List.map_nil]); first | done | rfl | (simp only [List.length_drop, List.length_take]; rfl)) ?_; (with_reducible refine (strings_Cut.calls x0_1 (⟨#[10]⟩ : ByteArray) t112 t113 false _ (by first | ((repeat (first | exact HG_.out | apply GW.drewN | apply GW.drew | apply GW.alloc)); done) | exact GW.below HG_.out (by repeat (first | (with_reducible first | exact HB.out | apply below_alloc | apply pw_below_drewN | apply below_drew1) | exact HB.out))) A3.out).mono ?_); rintro e w' ⟨rfl, ⟨nd, rfl⟩⟩; refine ⟨_, rfl, ?_⟩) | ((with_reducible refine gate_builtin (b := .append) (xs := #[.tmp 18, .tmp 20]) rfl ?_); at_builtin; refine Kd.R_append Kd.string (w0 := w) w.heap.size rfl (.tmp 18) (.tmp 20) 22 9 (.string ⟨#[]⟩) 16 rfl Tryd.underlying22 info9 rfl (by decide) (by omega) u3 x3_1 t112 [.string t112] (fun _ => True) (fun _ => False) rfl rfl ?aP (fun _ hk => hk.elim) ?aF ?aO ?aB ?aS ?aL ?_; (case aP => exact rfl); (case aB => exact (by repeat (first | (with_reducible first | exact HB.out | apply below_alloc | apply pw_below_drewN | apply below_drew1) | exact HB.out))); (case aF => exact (fun _ _ => trivial)); (case aO => exact (by (with_reducible repeat (first | apply Kd.R_alloc | apply Kd.R_drewN | apply Kd.R_drew)); exact HO_3.out)); (case aS => exact (below_size (by repeat (first | (with_reducible first | exact HB.out | apply below_alloc | apply pw_below_drewN | apply below_drew1) | exact HB.out)))); (case aL => have := LMc8.out; omega); intro v120 w9 ho hb hg hat; rw [← Ny119.out] at ho; have n0_ := Aside0.mk (hb); have n1_ := Aside0.mk (ho); clear HB; clear HO_3; have HB := n0_; have HO121 := n1_; clear n0_ n1_; clear ho hb hg hat))); (go_roundg k1)
            case measure => have := HK1.out; omega
            case rel => exact ⟨(t113), (y119), (by first | rfl | (simp; done) | (simp [*]; done)), H', ⟨by have := HK1.out; omega⟩, ⟨by (with_reducible repeat (first | apply Kd.R_alloc | apply Kd.R_drewN | apply Kd.R_drew)); exact HO121.out⟩, ⟨by repeat (first | (with_reducible first | exact HB.out | apply below_alloc | apply pw_below_drewN | apply below_drew1) | exact HB.out)⟩⟩
          · rw [if_neg c8] at H
            (exact absurd H (by simp))

/-! ### piece_Lines: function 54 -/
def piece_Lines.f (k : Nat) (a0 : ByteArray) : Option (List ByteArray) := (text_Lines.f k a0).bind fun t122 => (some t122)
theorem piece_Lines.mono : ∀ a0 k, LeO (piece_Lines.f k a0) (piece_Lines.f (k + 1) a0) := by
  intro a0 k
  unfold piece_Lines.f
  repeat' first
      | (with_reducible exact text_Lines.mono _ _)
      | (with_reducible exact LeO.refl _)
      | (with_reducible exact LeO.none _)
      | (with_reducible refine LeO.ite ?_ ?_)
      | (with_reducible refine LeO.bind ?_ (fun _ => ?_))
      | exact text_Lines.mono _ _
      | exact LeO.none _
      | refine LeO.ite ?_ ?_
      | refine LeO.bind ?_ (fun _ => ?_)
set_option maxHeartbeats 8000000 in
set_option maxRecDepth 100000 in
theorem piece_Lines.calls (k : Nat) (a0 : ByteArray) (r : List ByteArray) (w : World) (hG : GW w) (h : piece_Lines.f k a0 = some r) :
    Calls Tryd.prog 54 #[.string a0] w fun e w' => ∃ v0_ : Value, e = .returned (v0_) ∧ Kd.R Kd.string 9 w' w.heap.size (fun _ => True) v0_ r ∧ Below w.heap.size w w' := by
  (have HG_ := Aside0.mk hG); clear hG; (have HB := Aside0.mk (Below.refl w.heap.size w)); (have H : ((text_Lines.f k a0).bind fun t122 => (some t122)) = some r := h); clear h; (replace H := Option.bind_eq_some_iff.mp H)
  obtain ⟨t122, A20, H⟩ := H
  (replace H : (some t122) = some r := H); (have A2 := Aside0.mk A20); clear A20
  obtain rfl := Option.some.inj H
  (go_enter Tryd.func54, Tryd.ntmps54); (go_wp2_with (first | ((with_reducible refine gate_callee (f := 22) rfl ?_); refine goesL_ (some 4) rfl rfl Tryd.func22 (by kernel_rfl) rfl #[.string a0] rfl (by (try simp only [List.map_toArray, List.map_cons, List.map_nil]); first | done | rfl | (simp only [List.length_drop, List.length_take]; rfl)) ?_; (with_reducible refine (text_Lines.calls k a0 t122 _ (by first | ((repeat (first | exact HG_.out | apply GW.drewN | apply GW.drew | apply GW.alloc)); done) | exact GW.below HG_.out (by repeat (first | (with_reducible first | exact HB.out | apply below_alloc | apply pw_below_drewN | apply below_drew1) | exact HB.out))) A2.out).mono ?_); rintro e w3 ⟨v123, rfl, ho0, hb⟩; refine ⟨_, rfl, ?_⟩; have n0_ := Aside0.mk (Kd.R_lower ho0 (below_size (by repeat (first | (with_reducible first | exact HB.out | apply below_alloc | apply pw_below_drewN | apply below_drew1) | exact HB.out)))); have n1_ := Aside0.mk (below_step (by repeat (first | (with_reducible first | exact HB.out | apply below_alloc | apply pw_below_drewN | apply below_drew1) | exact HB.out)) hb); clear HB; have HO124 := n0_; have HB := n1_; clear n0_ n1_; (try clear hb); (try clear hb2); (try clear hk); (try clear hi); (try clear ho0)))); (go_ret); (exact ⟨_, by first | rfl | (simp [errW_none, errW_some] <;> rfl) | (simp [*, errW_none, errW_some] <;> rfl), by (with_reducible repeat (first | apply Kd.R_alloc | apply Kd.R_drewN | apply Kd.R_drew)); exact HO124.out, by repeat (first | (with_reducible first | exact HB.out | apply below_alloc | apply pw_below_drewN | apply below_drew1) | exact HB.out)⟩)

/-! ### digest_Sum: function 27 -/
def digest_Sum.f (a0 : ByteArray) : Option ByteArray := if a0.size ≤ 70368744177664 then some (Sha.sumI constTab a0) else none
theorem digest_Sum.calls (a0 : ByteArray) (r : ByteArray) (w : World) (hG : GW w) (h : digest_Sum.f a0 = some r) :
    Calls Tryd.prog 27 #[.string a0] w fun e w' => e = .returned (.string r) ∧ Below w.heap.size w w' := by
  (unfold digest_Sum.f at h)
  by_cases h1 : a0.size ≤ 70368744177664
  · rw [if_pos h1] at h
    obtain rfl := Option.some.inj h
    (exact Sha.sum_any a0 h1 w constTab rfl hG.const_lt hG.kcell)
  · rw [if_neg h1] at h
    cases h

/-! ### merkle_Leaf: function 56 -/
def merkle_Leaf.f (a0 : ByteArray) : Option (ByteArray) := if 1 + a0.size ≤ 9223372036854775807 then ((digest_Sum.f ((⟨#[0]⟩ : ByteArray) ++ a0)).bind fun t125 => (some t125)) else (none)
set_option maxHeartbeats 8000000 in
set_option maxRecDepth 100000 in
theorem merkle_Leaf.calls (a0 : ByteArray) (r : ByteArray) (w : World) (hG : GW w) (h : merkle_Leaf.f a0 = some r) :
    Calls Tryd.prog 56 #[.string a0] w fun e w' => e = .returned (.string r) ∧ Below w.heap.size w w' := by
  (have HG_ := Aside0.mk hG); clear hG; (have HB := Aside0.mk (Below.refl w.heap.size w)); (have H : (if 1 + a0.size ≤ 9223372036854775807 then ((digest_Sum.f ((⟨#[0]⟩ : ByteArray) ++ a0)).bind fun t125 => (some t125)) else (none)) = some r := h); clear h
  by_cases c2 : 1 + a0.size ≤ 9223372036854775807
  · rw [if_pos c2] at H
    (have c2b0 := eq_true c2); (have c2b1 : decide (1 + a0.size ≤ 9223372036854775807) = true := decide_eq_true c2); (try have c2b2 : (9223372036854775807 < 1 + a0.size) = False := eq_false (Nat.not_lt.2 c2)); (replace H := Option.bind_eq_some_iff.mp H)
    obtain ⟨t125, A30, H⟩ := H
    (replace H : (some t125) = some r := H); (have A3 := Aside0.mk A30); clear A30
    obtain rfl := Option.some.inj H
    (go_enter Tryd.func56, Tryd.ntmps56); (go_wp2_with (first | ((with_reducible refine gate_callee (f := 27) rfl ?_); refine goesL_ (some 5) rfl rfl Tryd.func27 (by kernel_rfl) rfl #[.string ((⟨#[0]⟩ : ByteArray) ++ a0)] rfl (by (try simp only [List.map_toArray, List.map_cons, List.map_nil]); first | done | rfl | (simp only [List.length_drop, List.length_take]; rfl)) ?_; (with_reducible refine (digest_Sum.calls ((⟨#[0]⟩ : ByteArray) ++ a0) t125 _ (by first | ((repeat (first | exact HG_.out | apply GW.drewN | apply GW.drew | apply GW.alloc)); done) | exact GW.below HG_.out (by repeat (first | (with_reducible first | exact HB.out | apply below_alloc | apply pw_below_drewN | apply below_drew1) | exact HB.out))) A3.out).mono ?_); rintro e w4 ⟨rfl, hb⟩; refine ⟨_, rfl, ?_⟩; have n0_ := Aside0.mk (below_step (by repeat (first | (with_reducible first | exact HB.out | apply below_alloc | apply pw_below_drewN | apply below_drew1) | exact HB.out)) hb); clear HB; have HB := n0_; clear n0_; (try clear hb); (try clear hb2); (try clear hk); (try clear hi)))); (go_ret); (exact ⟨by first | rfl | (simp [errW_none, errW_some] <;> rfl) | (simp [*, errW_none, errW_some] <;> rfl), by repeat (first | (with_reducible first | exact HB.out | apply below_alloc | apply pw_below_drewN | apply below_drew1) | exact HB.out)⟩)
  · rw [if_neg c2] at H
    (exact absurd H (by simp))

/-! ### bits_Len: function 103 -/
def bits_Len.f (a0 : Int) : Option Int := if 0 ≤ a0 ∧ a0 ≤ 18446744073709551615 then some (Lib.bitLen a0.toNat) else none
theorem bits_Len.calls (a0 : Int) (r : Int) (w : World) (hG : GW w) (h : bits_Len.f a0 = some r) :
    Calls Tryd.prog 103 #[.int .u64 a0] w fun e w' => e = .returned (.int .i64 r) ∧ Below w.heap.size w w' := by
  (unfold bits_Len.f at h)
  by_cases h1 : 0 ≤ a0 ∧ a0 ≤ 18446744073709551615
  · rw [if_pos h1] at h
    obtain rfl := Option.some.inj h
    (exact (Tryd.bits_Len a0 w h1.1 h1.2).mono fun e w' ⟨he, hw⟩ => ⟨he, by rw [hw]; exact Below.refl _ _⟩)
  · rw [if_neg h1] at h
    cases h

/-! ### merkle_split: function 93 -/
def merkle_split.f (a0 : Int) : Option (Int) := (bits_Len.f (IntKind.u64.wrap (wrap64 (a0 - 1)))).bind fun t126 => (if 0 ≤ (wrap64 (t126 - 1)) then (some (shl .i64 1 (wrap64 (t126 - 1)))) else (none))
set_option maxHeartbeats 8000000 in
set_option maxRecDepth 100000 in
theorem merkle_split.calls (a0 : Int) (r : Int) (w : World) (hG : GW w) (h : merkle_split.f a0 = some r) :
    Calls Tryd.prog 93 #[.int .i64 a0] w fun e w' => e = .returned (.int .i64 r) ∧ Below w.heap.size w w' := by
  (have HG_ := Aside0.mk hG); clear hG; (have HB := Aside0.mk (Below.refl w.heap.size w)); (have H : ((bits_Len.f (IntKind.u64.wrap (wrap64 (a0 - 1)))).bind fun t126 => (if 0 ≤ (wrap64 (t126 - 1)) then (some (shl .i64 1 (wrap64 (t126 - 1)))) else (none))) = some r := h); clear h; (replace H := Option.bind_eq_some_iff.mp H)
  obtain ⟨t126, A20, H⟩ := H
  (replace H : (if 0 ≤ (wrap64 (t126 - 1)) then (some (shl .i64 1 (wrap64 (t126 - 1)))) else (none)) = some r := H); (have A2 := Aside0.mk A20); clear A20
  obtain ⟨ji3, hji3⟩ : ∃ j_ : Int, (wrap64 (t126 - 1)) = j_ := ⟨_, rfl⟩
  (replace H : (if 0 ≤ (ji3) then (some (shl .i64 1 (ji3))) else (none)) = some r := by first | (rw [hji3] at H; exact H) | (simp only [hji3] at H ⊢; exact H)); (try rw [hji3] at A2); (have hji3w : (IntKind.i64.wrap (t126 - 1)) = ji3 := (i64_w _).trans hji3)
  by_cases c4 : 0 ≤ (ji3)
  · rw [if_pos c4] at H
    (have c4b0 := eq_true c4); (have c4b1 : decide (0 ≤ (ji3)) = true := decide_eq_true c4); clear c4
    obtain ⟨ji5, hji5⟩ : ∃ j_ : Int, (shl .i64 1 (ji3)) = j_ := ⟨_, rfl⟩
    (replace H : (some ji5) = some r := by first | (rw [hji5] at H; exact H) | (simp only [hji5] at H ⊢; exact H)); (try rw [hji5] at A2); (have hji5_ : (IntKind.i64.wrap (1 * 2 ^ min (ji3).toNat 64)) = ji5 := hji5); (have hji5z : (ji3) ≤ 64 → (IntKind.i64.wrap (1 * 2 ^ (ji3).toNat)) = ji5 := shl_small hji5); (have hji5u : (IntKind.i64.wrap (2 ^ min (ji3).toNat 64)) = ji5 := by have h_ := hji5_; rw [Int.one_mul] at h_; exact h_); (have hji5v : (ji3) ≤ 64 → (IntKind.i64.wrap (2 ^ (ji3).toNat)) = ji5 := fun hle_ => by have h_ := hji5z hle_; rw [Int.one_mul] at h_; exact h_); (have hji5y : (wrap64 (1 * 2 ^ min (ji3).toNat 64)) = ji5 := (i64_w _).symm.trans hji5_); (have hji5x : (ji3) ≤ 64 → (wrap64 (1 * 2 ^ (ji3).toNat)) = ji5 := fun h_ => (i64_w _).symm.trans (hji5z h_))
    obtain rfl := Option.some.inj H
    (go_enter Tryd.func93, Tryd.ntmps93); (go_wp2_with (first | ((with_reducible refine gate_callee (f := 103) rfl ?_); refine goesL_ (some 6) rfl rfl Tryd.func103 (by kernel_rfl) rfl #[.int .u64 (IntKind.u64.wrap (wrap64 (a0 - 1)))] rfl (by (try simp only [List.map_toArray, List.map_cons, List.map_nil]); first | done | rfl | (simp only [List.length_drop, List.length_take]; rfl)) ?_; (with_reducible refine (bits_Len.calls (IntKind.u64.wrap (wrap64 (a0 - 1))) t126 _ (by first | ((repeat (first | exact HG_.out | apply GW.drewN | apply GW.drew | apply GW.alloc)); done) | exact GW.below HG_.out (by repeat (first | (with_reducible first | exact HB.out | apply below_alloc | apply pw_below_drewN | apply below_drew1) | exact HB.out))) A2.out).mono ?_); rintro e w6 ⟨rfl, hb⟩; refine ⟨_, rfl, ?_⟩; have n0_ := Aside0.mk (below_step (by repeat (first | (with_reducible first | exact HB.out | apply below_alloc | apply pw_below_drewN | apply below_drew1) | exact HB.out)) hb); clear HB; have HB := n0_; clear n0_; (try clear hb); (try clear hb2); (try clear hk); (try clear hi)))); (go_ret); (exact ⟨by first | rfl | (simp [errW_none, errW_some] <;> rfl) | (simp only [← hji3, ← hji5]; first | rfl | (simp [errW_none, errW_some] <;> rfl)) | (simp [*, errW_none, errW_some] <;> rfl), by repeat (first | (with_reducible first | exact HB.out | apply below_alloc | apply pw_below_drewN | apply below_drew1) | exact HB.out)⟩)
  · rw [if_neg c4] at H
    (exact absurd H (by simp))

/-! ### merkle_Join: function 94 -/
def merkle_Join.f (a0 : ByteArray) (a1 : ByteArray) : Option (ByteArray) := if 1 + a0.size ≤ 9223372036854775807 then (if ((⟨#[1]⟩ : ByteArray) ++ a0).size + a1.size ≤ 9223372036854775807 then ((digest_Sum.f (((⟨#[1]⟩ : ByteArray) ++ a0) ++ a1)).bind fun t127 => (some t127)) else (none)) else (none)
set_option maxHeartbeats 8000000 in
set_option maxRecDepth 100000 in
theorem merkle_Join.calls (a0 : ByteArray) (a1 : ByteArray) (r : ByteArray) (w : World) (hG : GW w) (h : merkle_Join.f a0 a1 = some r) :
    Calls Tryd.prog 94 #[.string a0, .string a1] w fun e w' => e = .returned (.string r) ∧ Below w.heap.size w w' := by
  (have HG_ := Aside0.mk hG); clear hG; (have HB := Aside0.mk (Below.refl w.heap.size w)); (have H : (if 1 + a0.size ≤ 9223372036854775807 then (if ((⟨#[1]⟩ : ByteArray) ++ a0).size + a1.size ≤ 9223372036854775807 then ((digest_Sum.f (((⟨#[1]⟩ : ByteArray) ++ a0) ++ a1)).bind fun t127 => (some t127)) else (none)) else (none)) = some r := h); clear h
  by_cases c3 : 1 + a0.size ≤ 9223372036854775807
  · rw [if_pos c3] at H
    (have c3b0 := eq_true c3); (have c3b1 : decide (1 + a0.size ≤ 9223372036854775807) = true := decide_eq_true c3); (try have c3b2 : (9223372036854775807 < 1 + a0.size) = False := eq_false (Nat.not_lt.2 c3))
    by_cases c4 : ((⟨#[1]⟩ : ByteArray) ++ a0).size + a1.size ≤ 9223372036854775807
    · rw [if_pos c4] at H
      (have c4b0 := eq_true c4); (have c4b1 : decide (((⟨#[1]⟩ : ByteArray) ++ a0).size + a1.size ≤ 9223372036854775807) = true := decide_eq_true c4); (try have c4b2 : (9223372036854775807 < ((⟨#[1]⟩ : ByteArray) ++ a0).size + a1.size) = False := eq_false (Nat.not_lt.2 c4)); (try (have c4n := c4b2; simp only [ByteArray.size_append, size_mk_, List.size_toArray, List.length_cons, List.length_nil, Nat.zero_add, Nat.reduceAdd] at c4n)); (replace H := Option.bind_eq_some_iff.mp H)
      obtain ⟨t127, A50, H⟩ := H
      (replace H : (some t127) = some r := H); (have A5 := Aside0.mk A50); clear A50
      obtain rfl := Option.some.inj H
      (go_enter Tryd.func94, Tryd.ntmps94); (go_wp2_with (first | ((with_reducible refine gate_callee (f := 27) rfl ?_); refine goesL_ (some 9) rfl rfl Tryd.func27 (by kernel_rfl) rfl #[.string (((⟨#[1]⟩ : ByteArray) ++ a0) ++ a1)] rfl (by (try simp only [List.map_toArray, List.map_cons, List.map_nil]); first | done | rfl | (simp only [List.length_drop, List.length_take]; rfl)) ?_; (with_reducible refine (digest_Sum.calls (((⟨#[1]⟩ : ByteArray) ++ a0) ++ a1) t127 _ (by first | ((repeat (first | exact HG_.out | apply GW.drewN | apply GW.drew | apply GW.alloc)); done) | exact GW.below HG_.out (by repeat (first | (with_reducible first | exact HB.out | apply below_alloc | apply pw_below_drewN | apply below_drew1) | exact HB.out))) A5.out).mono ?_); rintro e w6 ⟨rfl, hb⟩; refine ⟨_, rfl, ?_⟩; have n0_ := Aside0.mk (below_step (by repeat (first | (with_reducible first | exact HB.out | apply below_alloc | apply pw_below_drewN | apply below_drew1) | exact HB.out)) hb); clear HB; have HB := n0_; clear n0_; (try clear hb); (try clear hb2); (try clear hk); (try clear hi)))); (go_ret); (exact ⟨by first | rfl | (simp [errW_none, errW_some] <;> rfl) | (simp [*, errW_none, errW_some] <;> rfl), by repeat (first | (with_reducible first | exact HB.out | apply below_alloc | apply pw_below_drewN | apply below_drew1) | exact HB.out)⟩)
    · rw [if_neg c4] at H
      (exact absurd H (by simp))
  · rw [if_neg c3] at H
    (exact absurd H (by simp))

end Go.Proofs.YtjnlppmodagegaaDoor.PPd
