/-
  The walk of (*digest.state).process: what one block does to the state. For every block of 64 bytes, in every world that holds the table of constants.
-/
import Derived.Test.YtjnlppmodagegaaDoorProg
import Derived.Test.YtjnlppmodagegaaDoorVWords
import Derived.Test.YtjnlppmodagegaaDoorVShaInt
import Derived.Deep.QuietTactic
import Derived.BigQuiet
import Derived.BigRegion
import Derived.Outline
import Derived.WalkLawsBesides
import Derived.WalkSpells
import Derived.LoopTactic
import Derived.Deep.LoopGhost
namespace Go.Proofs.YtjnlppmodagegaaDoor.Sha
open Go Go.RowKit Words

theorem rotl_any (x k : Int) (w : World) (hk0 : -32 < k) (hk1 : k < 0) :
    Calls Tryd.prog 100 #[.int .u32 x, .int .i64 k] w fun e w' => e = .returned (.int .u32 (rotI x k)) ∧ w = w' := by
  obtain ⟨m, rfl⟩ : ∃ m : Nat, k = -(m : Int) := ⟨(-k).toNat, by omega⟩
  have hc := count_of m (by omega) (by omega)
  obtain ⟨s, hs⟩ : ∃ s, bits .and .u64 (IntKind.u64.wrap (-(m : Int))) 31 = s := ⟨_, rfl⟩
  have hs2 : s = ((32 - m : Nat) : Int) := by rw [← hs, hc]
  have b0 : 0 ≤ s := by omega
  have b1 : s ≤ 31 := by omega
  have b2 : 1 ≤ s := by omega
  have hcn : cnt (-(m : Int)) = s.toNat := by unfold cnt; rw [hs]
  have he : (32 - s).toNat = 32 - s.toNat := by omega
  have HC := Lib.hid hcn
  have HE := Lib.hid he
  clear hs2 hc hk0 hk1 hcn he
  go_enter Tryd.func100, Tryd.ntmps100
  go_wp2
  go_ret
  unfold rotI
  rw [HC.out, ← HE.out]
  exact ⟨rfl, rfl⟩

theorem idx8_0 (x : St) (w : World) : (Instr.index 90 (.agg #[.int .u32 x.a, .int .u32 x.b, .int .u32 x.c, .int .u32 x.d, .int .u32 x.e, .int .u32 x.f, .int .u32 x.g, .int .u32 x.h]) (.int .i64 (0 : Nat))).run Tryd.prog w = .ok (.int .u32 ((lanes x)[0]?.getD 0)) w := by kernel_rfl
theorem idx8_1 (x : St) (w : World) : (Instr.index 90 (.agg #[.int .u32 x.a, .int .u32 x.b, .int .u32 x.c, .int .u32 x.d, .int .u32 x.e, .int .u32 x.f, .int .u32 x.g, .int .u32 x.h]) (.int .i64 (1 : Nat))).run Tryd.prog w = .ok (.int .u32 ((lanes x)[1]?.getD 0)) w := by kernel_rfl
theorem idx8_2 (x : St) (w : World) : (Instr.index 90 (.agg #[.int .u32 x.a, .int .u32 x.b, .int .u32 x.c, .int .u32 x.d, .int .u32 x.e, .int .u32 x.f, .int .u32 x.g, .int .u32 x.h]) (.int .i64 (2 : Nat))).run Tryd.prog w = .ok (.int .u32 ((lanes x)[2]?.getD 0)) w := by kernel_rfl
theorem idx8_3 (x : St) (w : World) : (Instr.index 90 (.agg #[.int .u32 x.a, .int .u32 x.b, .int .u32 x.c, .int .u32 x.d, .int .u32 x.e, .int .u32 x.f, .int .u32 x.g, .int .u32 x.h]) (.int .i64 (3 : Nat))).run Tryd.prog w = .ok (.int .u32 ((lanes x)[3]?.getD 0)) w := by kernel_rfl
theorem idx8_4 (x : St) (w : World) : (Instr.index 90 (.agg #[.int .u32 x.a, .int .u32 x.b, .int .u32 x.c, .int .u32 x.d, .int .u32 x.e, .int .u32 x.f, .int .u32 x.g, .int .u32 x.h]) (.int .i64 (4 : Nat))).run Tryd.prog w = .ok (.int .u32 ((lanes x)[4]?.getD 0)) w := by kernel_rfl
theorem idx8_5 (x : St) (w : World) : (Instr.index 90 (.agg #[.int .u32 x.a, .int .u32 x.b, .int .u32 x.c, .int .u32 x.d, .int .u32 x.e, .int .u32 x.f, .int .u32 x.g, .int .u32 x.h]) (.int .i64 (5 : Nat))).run Tryd.prog w = .ok (.int .u32 ((lanes x)[5]?.getD 0)) w := by kernel_rfl
theorem idx8_6 (x : St) (w : World) : (Instr.index 90 (.agg #[.int .u32 x.a, .int .u32 x.b, .int .u32 x.c, .int .u32 x.d, .int .u32 x.e, .int .u32 x.f, .int .u32 x.g, .int .u32 x.h]) (.int .i64 (6 : Nat))).run Tryd.prog w = .ok (.int .u32 ((lanes x)[6]?.getD 0)) w := by kernel_rfl
theorem idx8_7 (x : St) (w : World) : (Instr.index 90 (.agg #[.int .u32 x.a, .int .u32 x.b, .int .u32 x.c, .int .u32 x.d, .int .u32 x.e, .int .u32 x.f, .int .u32 x.g, .int .u32 x.h]) (.int .i64 (7 : Nat))).run Tryd.prog w = .ok (.int .u32 ((lanes x)[7]?.getD 0)) w := by kernel_rfl
theorem idx8 (x : St) (k : Nat) (hk : k < 8) (w : World) : (Instr.index 90 (.agg #[.int .u32 x.a, .int .u32 x.b, .int .u32 x.c, .int .u32 x.d, .int .u32 x.e, .int .u32 x.f, .int .u32 x.g, .int .u32 x.h]) (.int .i64 (k : Int))).run Tryd.prog w = .ok (.int .u32 ((lanes x)[k]?.getD 0)) w := by
  have h : k = 0 ∨ k = 1 ∨ k = 2 ∨ k = 3 ∨ k = 4 ∨ k = 5 ∨ k = 6 ∨ k = 7 := by omega
  rcases h with rfl | rfl | rfl | rfl | rfl | rfl | rfl | rfl
  · exact idx8_0 x w
  · exact idx8_1 x w
  · exact idx8_2 x w
  · exact idx8_3 x w
  · exact idx8_4 x w
  · exact idx8_5 x w
  · exact idx8_6 x w
  · exact idx8_7 x w

set_option maxHeartbeats 4000000 in
set_option maxRecDepth 100000 in
theorem proc_any (s : ByteArray) (hs : s.size = 64) (g : Nat) (w : World) (hg : g < w.heap.size) (x : St) (kt : List Int) (hst : Blk w g 91 (enc [x.a, x.b, x.c, x.d, x.e, x.f, x.g, x.h]))
    (hkt : kt.length = 64) (hk0 : 0 < w.heap.size) (hkc : ∀ i : Nat, i < 64 → w.cell? ⟨0, i, none⟩ = some (.int .u32 (kt[i]?.getD 0))) :
    Calls Tryd.prog 65 #[.pointer (some ⟨g, 0, none⟩), .string s] w fun e w' => e = .returned (.tuple #[]) ∧ Blk w' g 91 (enc (addTo (lanes x) (lanes (rounds kt (table s) x 64)) 8)) ∧ w.grownBy w' (some g) := by
  have hs1 : 64 ≤ s.size := by omega
  have hs2 : s.size ≤ 64 := by omega
  clear hs
  have HST := Lib.hid hst
  have HK := Lib.hid hkc
  have HKT := Lib.hid hkt
  clear hst hkc hkt
  go_enter Tryd.func65, Tryd.ntmps65
  go_wp2
  go_loopw [25] (fun i wr => ∃ k : Nat, k ≤ 16 ∧ i = .int .i64 k ∧ Blk wr w.heap.size 119 (enc (filled s k)) ∧ Below w.heap.size w wr) (fun i _ => 16 - (intOf i).toNat)
  case atStart => exact ⟨0, Nat.zero_le _, rfl, Blk.new _ _ _, (Below.refl _ _).alloc (Nat.le_refl _) _⟩
  case round =>
    obtain ⟨k, hk, rfl, hb, hw⟩ := hrel
    by_cases hlt : k < 16
    · go_wp2
      obtain ⟨wo, rfl⟩ : ∃ wo : World, wo = wr := ⟨_, rfl⟩
      go_loopw [28] (fun j wr => ∃ j' : Nat, j' ≤ 4 ∧ j = .int .i64 j' ∧ Blk wr w.heap.size 119 (enc (inner s k j' (filled s k))) ∧ Below w.heap.size w wr) (fun j _ => 4 - (intOf j).toNat)
      case atStart => exact ⟨0, Nat.zero_le _, rfl, hb, hw⟩
      case round =>
        obtain ⟨j, hj, rfl, hb2, hw2⟩ := hrel
        clear hb hw
        by_cases hlt2 : j < 4
        · have hl : (inner s k j (filled s k)).length = 64 := by rw [inner_length, filled_length]
          have c1 := hb2.cell k
          rw [enc_get _ _ (by omega)] at c1
          have f1 := hb2.frozen k
          clear hl
          have x0 : (0 : Int) ≤ 4 * (k : Int) + (j : Int) := by omega
          have x1 : 4 * (k : Int) + (j : Int) < (s.size : Int) := by omega
          have x2 : 4 * k + j < s.size := by omega
          have x3 : (k : Int) < 64 := by omega
          go_wp2
          go_region
          go_wp2
          go_roundw
          case rel => exact ⟨j + 1, by omega, by go_num, by rw [← inner_step s k j _ x2]; exact ((hb2.set_ _ _).drew), (hw2.setCell (Nat.le_refl _) _).drew⟩
          case measure => simp [intOf]; omega
        · obtain rfl : j = 4 := by omega
          go_wp2
          go_roundw
          case rel => exact ⟨k + 1, by omega, by go_num, hb2, hw2⟩
          case measure => simp [intOf]; omega
    · have hk16 : k = 16 := by omega
      rw [hk16] at hb
      clear hk16
      go_wp2
      clear hlt hk
      obtain ⟨wo, rfl⟩ : ∃ wo : World, wo = wr := ⟨_, rfl⟩
      go_loopw [7] (fun i wr => ∃ k : Nat, 16 ≤ k ∧ k ≤ 64 ∧ i = .int .i64 (k : Int) ∧ Blk wr w.heap.size 119 (enc (sched (filled s 16) (k - 16))) ∧ Below w.heap.size w wr) (fun i _ => 64 - (intOf i).toNat)
      case atStart => exact ⟨16, by omega, by omega, rfl, hb, hw⟩
      case round =>
        obtain ⟨k, hk0, hk, rfl, hb2, hw2⟩ := hrel
        clear hb hw
        by_cases hlt : k < 64
        · have hl : (sched (filled s 16) (k - 16)).length = 64 := by rw [sched_length, filled_length]
          obtain ⟨L, hL⟩ : ∃ L, sched (filled s 16) (k - 16) = L := ⟨_, rfl⟩
          have HL := Lib.hid hL
          rw [hL] at hl hb2
          clear hL
          have c2 := hb2.cell (k - 2)
          have c7 := hb2.cell (k - 7)
          have c15 := hb2.cell (k - 15)
          have c16 := hb2.cell (k - 16)
          have c0 := hb2.cell k
          rw [enc_get _ _ (by omega)] at c2 c7 c15 c16 c0
          have f0 := hb2.frozen k
          clear hl
          have x2 : (0 : Int) ≤ (k : Int) - 2 := by omega
          have x15 : (0 : Int) ≤ (k : Int) - 15 := by omega
          have y2 : (k : Int) - 2 < 64 := by omega
          have y15 : (k : Int) - 15 < 64 := by omega
          go_wp2
          go_quiet (fail)
          go_wp2_with (go_at_call 100; refine (rotl_any _ _ _ (by decide) (by decide)).mono ?_; rintro e w' ⟨rfl, rfl⟩)
          have x16 : (0 : Int) ≤ (k : Int) - 16 := by omega
          have y16 : (k : Int) - 16 < 64 := by omega
          have x7 : (0 : Int) ≤ (k : Int) - 7 := by omega
          have y7 : (k : Int) - 7 < 64 := by omega
          have y0 : (k : Int) < 64 := by omega
          go_region
          go_wp2
          go_roundw
          case rel => exact ⟨k + 1, by omega, by omega, by go_num, by rw [sched_step _ _ hk0, HL.out]; unfold schedStep; rw [← enc_set]; exact (hb2.drewN _).set_ _ _, (below_drewN hw2 _).setCell (p := ⟨w.heap.size, k, none⟩) (Nat.le_refl _) _⟩
          case measure => simp [intOf]; omega
        · go_wp2
          rw [table_of s k (by omega)] at hb2
          clear hlt hk hk0
          have bst := HST.out.below hw2 hg
          have s0 : wr.cell? ⟨g, 0, none⟩ = some (.int .u32 x.a) := bst.cell 0
          have s1 : wr.cell? ⟨g, 1, none⟩ = some (.int .u32 x.b) := bst.cell 1
          have s2 : wr.cell? ⟨g, 2, none⟩ = some (.int .u32 x.c) := bst.cell 2
          have s3 : wr.cell? ⟨g, 3, none⟩ = some (.int .u32 x.d) := bst.cell 3
          have s4 : wr.cell? ⟨g, 4, none⟩ = some (.int .u32 x.e) := bst.cell 4
          have s5 : wr.cell? ⟨g, 5, none⟩ = some (.int .u32 x.f) := bst.cell 5
          have s6 : wr.cell? ⟨g, 6, none⟩ = some (.int .u32 x.g) := bst.cell 6
          have s7 : wr.cell? ⟨g, 7, none⟩ = some (.int .u32 x.h) := bst.cell 7
          go_quiet (fail)
          go_wp2
          go_quiet (fail)
          go_wp2
          clear s0 s1 s2 s3 s4 s5 s6 s7 bst
          obtain ⟨wo, hwo⟩ : ∃ wo : World, wo = wr := ⟨_, rfl⟩
          go_loopw [12, 13, 14, 15, 16, 17, 18, 19, 122] (fun p0 p1 p2 p3 p4 p5 p6 p7 i w4 => ∃ k : Nat, k ≤ 64 ∧ i = .int .i64 (k : Int) ∧ p0 = .int .u32 (rounds kt (table s) x k).a ∧ p1 = .int .u32 (rounds kt (table s) x k).b ∧ p2 = .int .u32 (rounds kt (table s) x k).c ∧ p3 = .int .u32 (rounds kt (table s) x k).d ∧ p4 = .int .u32 (rounds kt (table s) x k).e ∧ p5 = .int .u32 (rounds kt (table s) x k).f ∧ p6 = .int .u32 (rounds kt (table s) x k).g ∧ p7 = .int .u32 (rounds kt (table s) x k).h ∧ Blk w4 w.heap.size 119 (enc (table s)) ∧ Below w.heap.size w w4) (fun _ _ _ _ _ _ _ _ i _ => 64 - (intOf i).toNat)
          case atStart => exact ⟨0, by omega, rfl, rfl, rfl, rfl, rfl, rfl, rfl, rfl, rfl, (hb2.drewN _).drewN _, below_drewN (below_drewN hw2 _) _⟩
          case round =>
            obtain ⟨k, hk, rfl, rfl, rfl, rfl, rfl, rfl, rfl, rfl, rfl, hb3, hw3⟩ := hrel
            clear hb2 hw2
            generalize hX : rounds kt (table s) x k = X
            have HX := Lib.hid hX
            clear hX
            by_cases hlt : k < 64
            · have ck := (hw3.cell (p := ⟨0, k, none⟩) hk0).trans (HK.out k hlt)
              have cw := hb3.cell k
              rw [enc_get _ _ (by rw [table_length]; exact hlt)] at cw
              have y0 : (k : Int) < 64 := by omega
              go_wp2_with (go_at_call 100; refine (rotl_any _ _ _ (by decide) (by decide)).mono ?_; rintro e w' ⟨rfl, rfl⟩)
              go_quiet (fail)
              go_wp2_with (go_at_call 100; refine (rotl_any _ _ _ (by decide) (by decide)).mono ?_; rintro e w' ⟨rfl, rfl⟩)
              go_roundw
              case rel => exact ⟨k + 1, by omega, by go_num, by rw [rounds, HX.out]; rfl, by rw [rounds, HX.out]; rfl, by rw [rounds, HX.out]; rfl, by rw [rounds, HX.out]; rfl, by rw [rounds, HX.out]; rfl, by rw [rounds, HX.out]; rfl, by rw [rounds, HX.out]; rfl, by rw [rounds, HX.out]; rfl, hb3.drewN _, below_drewN hw3 _⟩
              case measure => simp [intOf]; omega
            · have hk64 : k = 64 := by omega
              have HX2 : Hid (rounds kt (table s) x 64 = X) := Lib.hid (by rw [← hk64]; exact HX.out)
              clear HX hk64
              go_wp2
              clear hlt hk
              have hg3 := only_of_below hw3 (some g)
              have hg4 := hw3.size
              have bst : Blk wr g 91 (enc (lanes x)) := HST.out.below hw3 hg
              obtain ⟨wp, hwp⟩ : ∃ wp : World, wp = wr := ⟨_, rfl⟩
              clear hb3 hw3
              go_loopw [196] (fun i w5 => ∃ k : Nat, k ≤ 8 ∧ i = .int .i64 (k : Int) ∧ Blk w5 g 91 (enc (addTo (lanes x) (lanes X) k)) ∧ w.grownBy w5 (some g)) (fun i _ => 8 - (intOf i).toNat)
              case atStart => exact ⟨0, by omega, rfl, bst, hg3⟩
              case round =>
                clear bst hg3 hg4
                obtain ⟨k, hk, rfl, hb5, hg5⟩ := hrel
                by_cases hlt : k < 8
                · have ik := idx8 X k hlt
                  have c0 := hb5.cell k
                  rw [enc_get _ _ (by rw [addTo_length]; exact hlt)] at c0
                  have f0 := hb5.frozen k
                  have y0 : (k : Int) < 8 := by omega
                  go_wp2
                  go_region
                  go_wp2
                  go_roundw
                  case rel => exact ⟨k + 1, by omega, by go_num, by rw [addTo, ← enc_set]; exact (hb5.set_ _ _).drew, only_drew (only_setCell (p := ⟨g, k, none⟩) hg5 (.inl rfl) _)⟩
                  case measure => simp [intOf]; omega
                · have hk8 : k = 8 := by omega
                  rw [hk8] at hb5
                  clear hk8
                  go_wp2
                  go_end0
                  exact ⟨rfl, by rw [HX2.out]; exact hb5, hg5⟩
end Go.Proofs.YtjnlppmodagegaaDoor.Sha
