/-
  piece.Hide.
-/
import Derived.Test.YtjnlppmodagegaaDoorVRight
namespace Go.Proofs.YtjnlppmodagegaaDoor.HideW
open Go Go.RowKit Words Go.Sort Go.Lib Go.Proofs.YtjnlppmodagegaaDoorW.PrintWords SortSpan Span

/-- the spans merged so far -/
def mg (ys : List (Int × Int)) (k : Nat) : List (Int × Int) := (ys.take k).foldl addS []
theorem mg_succ (ys : List (Int × Int)) (k : Nat) (h : k < ys.length) : mg ys (k + 1) = addS (mg ys k) (ys[k]?.getD (0, 0)) := by
  unfold mg
  rw [List.take_succ_eq_append_getElem h, List.foldl_append, List.getElem?_eq_getElem h]; rfl
theorem mg_length (ys : List (Int × Int)) (k : Nat) : (mg ys k).length ≤ k := by
  have h : ∀ (l acc : List (Int × Int)), (l.foldl addS acc).length ≤ acc.length + l.length := by
    intro l
    induction l with
    | nil => intro acc; exact Nat.le_refl _
    | cons x l ih =>
      intro acc
      have h1 := ih (addS acc x)
      have h2 := addS_length acc x
      rw [List.foldl_cons, List.length_cons]; omega
  have := h (ys.take k) []
  simp only [List.length_nil, List.length_take] at this
  unfold mg; omega
theorem mg_all (ys : List (Int × Int)) (k : Nat) (h : ys.length ≤ k) : mg ys k = ys.foldl addS [] := by unfold mg; rw [List.take_of_length_le h]

set_option maxHeartbeats 8000000 in
theorem hide_any (n c : Nat) (A : Option Addr) (xs : List (Int × Int)) (s : Int × Int) (w : World) (hr : RdS w A n xs) (hl : n + 2 ≤ 4398046511104) :
    Calls Tryd.prog 31 #[.slice A n c, .agg #[.int .i64 s.1, .int .i64 s.2]] w fun e w' => ∃ v, e = .returned v ∧ w'.ownsRow w.heap.size 43 2 v (hideA xs s).length (cellsS (hideA xs s)) ∧ Below w.heap.size w w' := by
  have HR := Lib.hid hr
  clear hr
  have same : ∀ v w1, w1.ownsRow w.heap.size 43 2 v n (cellsS xs) → Below w.heap.size w w1 → ¬ (rightB xs n = true ∧ valid s) → (∃ v', Ending.returned v = .returned v' ∧ w1.ownsRow w.heap.size 43 2 v' (hideA xs s).length (cellsS (hideA xs s)) ∧ Below w.heap.size w w1) := by
    intro v w1 h1 h2 h3
    rw [hideA, HR.out.1, if_neg h3, HR.out.1]
    exact ⟨v, rfl, h1, h2⟩
  have HS := Lib.hid same
  clear same
  have hb1 : Below w.heap.size w (w.alloc (.cells #[.int .i64 s.1, .int .i64 s.2] 43)) := (Below.refl _ _).alloc (Nat.le_refl _) _
  have hk1 : Blk (w.alloc (.cells #[.int .i64 s.1, .int .i64 s.2] 43)) w.heap.size 43 #[.int .i64 s.1, .int .i64 s.2] := Blk.new w _ _
  have c1 := clone_any _ n c A xs _ (HR.out.keep hb1) (by omega) (Nat.le_refl (w.alloc (.cells #[.int .i64 s.1, .int .i64 s.2] 43)).heap.size)
  have C1 := Lib.hid c1
  clear c1
  go_enter Tryd.func31, Tryd.ntmps31
  go_wp2_with (go_at_call 68; refine C1.out.mono ?_; clear C1)
  rintro e w2 ⟨v, rfl, ho2, hw2⟩
  have hk2 := hk1.below hw2 hk1.lt
  have ho2 := own_weaken ho2 hb1.size
  have hw2 : Below w.heap.size w w2 := hb1.trans (hw2.mono hb1.size)
  have hz2 := hw2.size
  go_wp2_with (go_at_call 69; refine (right_any n c A xs _ (HR.out.keep hw2) (by omega)).mono ?_)
  rintro e w3 ⟨rfl, hw3⟩
  have ho3 := pw_own_below ho2 hw3
  have hk3 := hk2.below hw3 hk2.lt
  have hw3 : Below w.heap.size w w3 := hw2.trans (hw3.mono hz2)
  have cf := hk3.cell 0
  have cu := hk3.cell 1
  simp only [List.getElem?_toArray, List.getElem?_cons_zero, List.getElem?_cons_succ] at cf cu
  have HO := Lib.hid ho3
  have HK := Lib.hid hk3
  clear ho3 hk3 hk2 ho2 hk1 hw2 hb1 hz2
  cases hrt : rightB xs n with
  | false =>
    go_wp2
    go_ret
    exact HS.out _ _ HO.out hw3 (by rw [hrt]; rintro ⟨h, _⟩; cases h)
  | true =>
    by_cases c1 : s.1 < 0
    · have d1 : decide (s.1 < 0) = true := decide_eq_true c1
      go_wp2
      go_ret
      exact HS.out _ _ HO.out hw3 (by rintro ⟨_, h⟩; unfold valid at h; omega)
    have d1 : decide (s.1 < 0) = false := decide_eq_false c1
    by_cases c2 : s.1 ≥ s.2
    · have d2 : decide (s.1 ≥ s.2) = true := decide_eq_true c2
      go_wp2
      go_ret
      exact HS.out _ _ HO.out hw3 (by rintro ⟨_, h⟩; unfold valid at h; omega)
    have d2 : decide (s.1 ≥ s.2) = false := decide_eq_false c2
    have hv : valid s := by unfold valid; omega
    have hA : hideA xs s = hideS xs s := by rw [hideA, HR.out.1, if_pos ⟨hrt, hv⟩]
    have HA := Lib.hid hA
    clear hA HS
    have hz3 := hw3.size
    go_wp2_with ((with_reducible refine gate_dst (N := 31) rfl ?_); go_must (refine print_append_cells (w0 := w) w.heap.size rfl (.tmp 28) (.tmp 30) 35 43 (.agg #[.int .i64 0, .int .i64 0]) 2 16 rfl Tryd.underlying35 info_span rfl (by decide) (by decide) v n (cellsS xs) [.int .i64 s.1, .int .i64 s.2] rfl rfl rfl (by simp [Value.oneCell']) HO.out hw3 hz3 (by omega) ?_; intro v1 w4 h1 h2 h3 h4))
    obtain ⟨g, cap, hv1, hgB, hgl⟩ := h1.form (Nat.succ_pos n)
    subst hv1
    have hcs : cellsS xs ++ [.int .i64 s.1, .int .i64 s.2] = cellsS (xs ++ [s]) := by rw [cellsS_append, cellsS_one]
    rw [hcs] at h1
    refine (sort_any w.heap.size (n + 1) cap g (xs ++ [s]) w4 (by rw [List.length_append, HR.out.1]; rfl) (by omega) h1).mono ?_
    rintro e w5 ⟨rfl, ys, hperm, hsort, ho5, hg5⟩
    have hw5 : Below w.heap.size w w5 := h2.grown hg5 h2.size (fun k hk => by injection hk with hk; rw [← hk]; exact hgB)
    have hz5 := hw5.size
    have hlen : ys.length = n + 1 := by rw [hperm.length_eq, List.length_append, HR.out.1]; rfl
    have HY := Lib.hid (hideS_of xs s ((rightB_all xs).1 (by rw [HR.out.1]; exact hrt)) hv ys hperm hsort)
    have HL := Lib.hid hlen
    have hg5l : g < w5.heap.size := (ho5.lt g rfl).2
    have H5 := Lib.hid ho5
    clear ho5 hg5 hlen hperm hsort h1 h2 h3 h4 hcs HO HK cf cu hw3 hz3
    go_wp2_with fail
    go_loopw [37] (fun i wr => ∃ k : Nat, k ≤ n + 1 ∧ i = .int .i64 (k : Int) ∧ (∃ vm, Blk wr w5.heap.size 35 #[vm] ∧ wr.ownsRow w5.heap.size 43 2 vm (mg ys k).length (cellsS (mg ys k))) ∧ Below w5.heap.size w5 wr) (fun i _ => n + 1 - (intOf i).toNat)
    case atStart => exact ⟨0, Nat.zero_le _, rfl, ⟨_, Blk.new w5 _ _, own_nil _ _ _ _⟩, (Below.refl _ _).alloc (Nat.le_refl _) _⟩
    case round =>
      obtain ⟨k, hk, rfl, ⟨vm, hbm, hom⟩, hw⟩ := hrel
      have hz := hw.size
      have hml := mg_length ys k
      by_cases hlt : k < n + 1
      · have hs1 := mg_succ ys k (by rw [HL.out]; exact hlt)
        have h0 : wr.cell? ⟨g, k * 2, none⟩ = some (.int .i64 (ys[k]?.getD (0, 0)).1) := by
          rw [hw.cell hg5l, H5.out.cellAt (k * 2) (by omega), cellsS_get ys _ (by rw [HL.out]; omega), show k * 2 / 2 = k by omega, show k * 2 % 2 = 0 by omega]; rfl
        have h1 : wr.cell? ⟨g, k * 2 + 1, none⟩ = some (.int .i64 (ys[k]?.getD (0, 0)).2) := by
          rw [hw.cell hg5l, H5.out.cellAt (k * 2 + 1) (by omega), cellsS_get ys _ (by rw [HL.out]; omega), show (k * 2 + 1) / 2 = k by omega, show (k * 2 + 1) % 2 = 1 by omega]; rfl
        generalize ys[k]?.getD (0, 0) = x at *
        have hgr : g < wr.heap.size := by omega
        have x3 : (k : Int) < (n : Int) + 1 := by omega
        have hadd := add_any w5.heap.size w5.heap.size (mg ys k).length (mg ys k) x vm _ rfl (Nat.le_refl _) (hbm.alloc (.cells #[.int .i64 x.1, .int .i64 x.2] 43)) (hom.alloc _) (by omega) (by simp; omega)
        have HA2 := Lib.hid hadd
        have HS1 := Lib.hid hs1
        clear hadd hs1
        go_wp2_with fail
        refine HA2.out.mono ?_
        rintro e w6 ⟨rfl, vn, hbn, hon, hw6⟩
        have hwn := ((hw.alloc hz (.cells #[.int .i64 x.1, .int .i64 x.2] 43))).trans hw6
        rw [← HS1.out] at hon
        clear HA2 HS1 hbm hom
        have HN := Lib.hid (⟨hbn, hon⟩ : _ ∧ _)
        clear hbn hon
        go_wp2
        go_roundw
        case rel => exact ⟨k + 1, by omega, by go_num, ⟨vn, HN.out.1, HN.out.2⟩, hwn⟩
        case measure => simp [intOf]; omega
      · have hkn : mg ys k = hideA xs s := by rw [mg_all ys k (by rw [HL.out]; omega), HY.out, HA.out]
        rw [hkn] at hom
        obtain ⟨Am, cm, rfl⟩ := own_slice hom
        have cm0 := hbm.cell 0
        simp only [List.getElem?_toArray, List.getElem?_cons_zero] at cm0
        have HN := Lib.hid hom
        obtain rfl : k = n + 1 := by omega
        clear hom hbm hkn
        go_wp2
        go_ret
        exact ⟨_, rfl, own_weaken HN.out hz5, hw5.trans (hw.mono hz5)⟩
end Go.Proofs.YtjnlppmodagegaaDoor.HideW
