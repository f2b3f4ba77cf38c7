/-
  The walk of digest.Sum.
-/
import Derived.Test.YtjnlppmodagegaaDoorVShaProc
import Derived.Test.YtjnlppmodagegaaDoorVShaTail
import Derived.Test.YtjnlppmodagegaaDoorVBytes
import Derived.Laws.ResultCell
import Derived.Deep.DeepMust
namespace Go.Proofs.YtjnlppmodagegaaDoor.Sha
open Go Go.RowKit Words Bytes Go.Proofs.YtjnlppmodagegaaDoorW.PrintWords Go.Proofs.YtjnlppmodagegaaDoorW.PrintLast

/-- one block, the state a list -/
theorem proc_calls (kt : List Int) (s : ByteArray) (hs : s.size = 64) (g : Nat) (w : World) (l : List Int) (hl : l.length = 8) (hb : Blk w g 91 (enc l))
    (hkt : kt.length = 64) (hk0 : 0 < w.heap.size) (hkc : ∀ i : Nat, i < 64 → w.cell? ⟨0, i, none⟩ = some (.int .u32 (kt[i]?.getD 0))) :
    Calls Tryd.prog 65 #[.pointer (some ⟨g, 0, none⟩), .string s] w fun e w' => e = .returned (.tuple #[]) ∧ Blk w' g 91 (enc (process kt s l)) ∧ w.grownBy w' (some g) := by
  have h := proc_any s hs g w hb.lt (stOf l) kt (by have := lanes_stOf l hl; unfold lanes at this; rw [this]; exact hb) hkt hk0 hkc
  rw [process_eq]
  rw [lanes_stOf l hl] at h
  exact h

theorem ix8_0 (x : St) (w : World) : (Instr.index 91 (.agg #[.int .u32 x.a, .int .u32 x.b, .int .u32 x.c, .int .u32 x.d, .int .u32 x.e, .int .u32 x.f, .int .u32 x.g, .int .u32 x.h]) (.int .i64 (0 : Nat))).run Tryd.prog w = .ok (.int .u32 ((lanes x)[0]?.getD 0)) w := by kernel_rfl
theorem ix8_1 (x : St) (w : World) : (Instr.index 91 (.agg #[.int .u32 x.a, .int .u32 x.b, .int .u32 x.c, .int .u32 x.d, .int .u32 x.e, .int .u32 x.f, .int .u32 x.g, .int .u32 x.h]) (.int .i64 (1 : Nat))).run Tryd.prog w = .ok (.int .u32 ((lanes x)[1]?.getD 0)) w := by kernel_rfl
theorem ix8_2 (x : St) (w : World) : (Instr.index 91 (.agg #[.int .u32 x.a, .int .u32 x.b, .int .u32 x.c, .int .u32 x.d, .int .u32 x.e, .int .u32 x.f, .int .u32 x.g, .int .u32 x.h]) (.int .i64 (2 : Nat))).run Tryd.prog w = .ok (.int .u32 ((lanes x)[2]?.getD 0)) w := by kernel_rfl
theorem ix8_3 (x : St) (w : World) : (Instr.index 91 (.agg #[.int .u32 x.a, .int .u32 x.b, .int .u32 x.c, .int .u32 x.d, .int .u32 x.e, .int .u32 x.f, .int .u32 x.g, .int .u32 x.h]) (.int .i64 (3 : Nat))).run Tryd.prog w = .ok (.int .u32 ((lanes x)[3]?.getD 0)) w := by kernel_rfl
theorem ix8_4 (x : St) (w : World) : (Instr.index 91 (.agg #[.int .u32 x.a, .int .u32 x.b, .int .u32 x.c, .int .u32 x.d, .int .u32 x.e, .int .u32 x.f, .int .u32 x.g, .int .u32 x.h]) (.int .i64 (4 : Nat))).run Tryd.prog w = .ok (.int .u32 ((lanes x)[4]?.getD 0)) w := by kernel_rfl
theorem ix8_5 (x : St) (w : World) : (Instr.index 91 (.agg #[.int .u32 x.a, .int .u32 x.b, .int .u32 x.c, .int .u32 x.d, .int .u32 x.e, .int .u32 x.f, .int .u32 x.g, .int .u32 x.h]) (.int .i64 (5 : Nat))).run Tryd.prog w = .ok (.int .u32 ((lanes x)[5]?.getD 0)) w := by kernel_rfl
theorem ix8_6 (x : St) (w : World) : (Instr.index 91 (.agg #[.int .u32 x.a, .int .u32 x.b, .int .u32 x.c, .int .u32 x.d, .int .u32 x.e, .int .u32 x.f, .int .u32 x.g, .int .u32 x.h]) (.int .i64 (6 : Nat))).run Tryd.prog w = .ok (.int .u32 ((lanes x)[6]?.getD 0)) w := by kernel_rfl
theorem ix8_7 (x : St) (w : World) : (Instr.index 91 (.agg #[.int .u32 x.a, .int .u32 x.b, .int .u32 x.c, .int .u32 x.d, .int .u32 x.e, .int .u32 x.f, .int .u32 x.g, .int .u32 x.h]) (.int .i64 (7 : Nat))).run Tryd.prog w = .ok (.int .u32 ((lanes x)[7]?.getD 0)) w := by kernel_rfl
theorem ix8 (x : St) (k : Nat) (hk : k < 8) (w : World) : (Instr.index 91 (.agg #[.int .u32 x.a, .int .u32 x.b, .int .u32 x.c, .int .u32 x.d, .int .u32 x.e, .int .u32 x.f, .int .u32 x.g, .int .u32 x.h]) (.int .i64 (k : Int))).run Tryd.prog w = .ok (.int .u32 ((lanes x)[k]?.getD 0)) w := by
  have h : k = 0 ∨ k = 1 ∨ k = 2 ∨ k = 3 ∨ k = 4 ∨ k = 5 ∨ k = 6 ∨ k = 7 := by omega
  rcases h with rfl | rfl | rfl | rfl | rfl | rfl | rfl | rfl
  · exact ix8_0 x w
  · exact ix8_1 x w
  · exact ix8_2 x w
  · exact ix8_3 x w
  · exact ix8_4 x w
  · exact ix8_5 x w
  · exact ix8_6 x w
  · exact ix8_7 x w

theorem begin_any (w : World) : Calls Tryd.prog 64 #[] w fun e w' => e = .returned (.agg #[.int .u32 1779033703, .int .u32 3144134277, .int .u32 1013904242, .int .u32 2773480762, .int .u32 1359893119, .int .u32 2600822924, .int .u32 528734635, .int .u32 1541459225]) ∧ Below w.heap.size w w' := by
  go_enter Tryd.func64, Tryd.ntmps64
  go_wp2
  exact bodyPost_ret (v := .agg #[.int .u32 1779033703, .int .u32 3144134277, .int .u32 1013904242, .int .u32 2773480762, .int .u32 1359893119, .int .u32 2600822924, .int .u32 528734635, .int .u32 1541459225]) (by simp [results, Tryd.results64, go_sem]) rfl ⟨rfl, (Below.refl _ _).alloc (Nat.le_refl _) _⟩

set_option maxHeartbeats 4000000 in
set_option maxRecDepth 100000 in
theorem sum_any (s : ByteArray) (hs : s.size ≤ 70368744177664) (w : World) (kt : List Int)
    (hkt : kt.length = 64) (hk0 : 0 < w.heap.size) (hkc : ∀ i : Nat, i < 64 → w.cell? ⟨0, i, none⟩ = some (.int .u32 (kt[i]?.getD 0))) :
    Calls Tryd.prog 27 #[.string s] w fun e w' => e = .returned (.string (sumI kt s)) ∧ Below w.heap.size w w' := by
  have HK := Lib.hid hkc
  have HKT := Lib.hid hkt
  clear hkc hkt
  go_enter Tryd.func27, Tryd.ntmps27
  go_wp2_with (go_at_call 64; refine (begin_any _).mono ?_; rintro e w' ⟨rfl, hb⟩)
  have hb0 := below_alloc hb (.cells (enc begin0) 91)
  have bk0 : Blk (w'.alloc (.cells (enc begin0) 91)) w'.heap.size 91 (enc begin0) := Blk.new _ _ _
  have hgB : w.heap.size ≤ w'.heap.size := hb.size
  go_loopw [4] (fun r wr => ∃ (rest : ByteArray) (l : List Int), r = .string rest ∧ rest.size ≤ s.size ∧ l.length = 8 ∧ Blk wr w'.heap.size 91 (enc l) ∧ Below w.heap.size w wr ∧ Hid (chopped kt s begin0 = chopped kt rest l)) (fun r _ => match r with | .string b => b.size | _ => 0)
  case atStart => exact ⟨s, begin0, rfl, Nat.le_refl _, rfl, bk0, hb0, Lib.hid rfl⟩
  case round =>
    clear hb hb0 bk0
    obtain ⟨rest, l, rfl, hr, hl, bk, hw, HC⟩ := hrel
    by_cases hlt : 64 ≤ rest.size
    · have hx : (rest.extract 0 64).size = 64 := by rw [ByteArray.size_extract]; omega
      have HX := Lib.hid hx
      clear hx
      have hz : w.heap.size ≤ wr.heap.size := hw.size
      have HKr : Hid (∀ i : Nat, i < 64 → wr.cell? ⟨0, i, none⟩ = some (.int .u32 (kt[i]?.getD 0))) := Lib.hid fun i hi => (hw.cell (p := ⟨0, i, none⟩) hk0).trans (HK.out i hi)
      go_wp2_with fail
      refine (proc_calls kt _ HX.out w'.heap.size _ l hl bk HKT.out (by omega) HKr.out).mono ?_
      rintro e w1 ⟨rfl, bk1, hg1⟩
      go_wp2
      go_roundw
      case rel => exact ⟨_, process kt (rest.extract 0 64) l, rfl, by rw [size_cut]; omega, process_length _ _ _ hl, bk1, hw.grown hg1 (by omega) (fun k hk => by injection hk with hk; omega), Lib.hid (by rw [HC.out, chopped_step kt rest l hlt])⟩
      case measure => show (rest.extract 64 rest.size).size < rest.size; rw [size_cut]; omega
    · have HC1 : Hid (chopped kt s begin0 = (l, rest)) := Lib.hid (by rw [HC.out, chopped_done kt rest l hlt])
      clear HC
      have hz := hw.size
      go_wp2_with (first
        | ((with_reducible refine gate_dst (N := 22) rfl ?_); go_must (refine makeB (B := w.heap.size) rfl _ _ rfl rfl 128 rfl (by omega) (by omega) (by omega) ?_; intro w1 ho1 hg1; simp only [Int.reduceToNat] at ho1 ⊢))
        | ((with_reducible refine gate_dst (N := 25) rfl ?_); go_must (refine appStrB (w0 := w) rfl (.tmp 23) (.tmp 24) rfl rest rfl rfl ho1 (hw.grown hg1 hz (fun k hk => by cases hk)) (by have := hg1.size; omega) (by omega) ?_; intro v2 w2 ho2 hw2 hg2; have hs2 := hg2.size; have bk2 := (bk.grown hg1 (by simp)).grown hg2 (ho1.ne_blk (bk.grown hg1 (by simp)) (by decide))))
        | ((with_reducible refine gate_dst (N := 28) rfl ?_); go_must (refine appB (w0 := w) rfl (.tmp 26) (.tmp 27) rfl 128 rfl rfl ho2 hw2 (by have := hg1.size; omega) (by omega) ?_; intro v3 w3 ho3 hw3 hg3; have bk3 := bk2.grown hg3 (ho2.ne_blk bk2 (by decide)))))
      clear ho1 ho2 hg1 hg2 hg3 bk bk2 hs2 hw hw2 hz
      simp only [List.nil_append] at ho3
      go_loopw [5] (fun v wr => ∃ n : Nat, rest.size + 1 ≤ n ∧ n ≤ rest.size + 1 + zerosOf rest.size ∧ OwnB wr w.heap.size v n (tail0 (bytesOf rest) (n - (rest.size + 1))) ∧ Below w.heap.size w wr ∧ Blk wr w'.heap.size 91 (enc l)) (fun v _ => match v with | .slice _ n _ => 200 - n | _ => 0)
      case atStart => exact ⟨rest.size + 1, Nat.le_refl _, by omega, by rw [Nat.sub_self]; simpa [tail0] using ho3, hw3, bk3⟩
      case round =>
        clear ho3 hw3 bk3
        obtain ⟨n, hn0, hn1, ho, hw, bk⟩ := hrel
        obtain ⟨A, c, hv⟩ := ho.slice_
        subst hv
        have hzo := zeros_lt rest.size
        have hz := hw.size
        by_cases hq : n < rest.size + 1 + zerosOf rest.size
        · have hb1 := zeros_more rest.size n (by omega) hn0 hq
          go_wp2_with ((with_reducible refine gate_dst (N := 35) rfl ?_); go_must (refine appB (w0 := w) rfl (.tmp 33) (.tmp 34) rfl 0 rfl rfl ho hw hz (by omega) ?_; intro v4 w4 ho4 hw4 hg4; have bk4 := bk.grown hg4 (ho.ne_blk bk (by decide)); obtain ⟨A4, c4, hv⟩ := ho4.slice_; subst hv))
          go_roundw
          case rel => exact ⟨n + 1, by omega, by omega, by rw [tail0_next _ _ _ hn0]; exact ho4, hw4, bk4⟩
          case measure => show 200 - (n + 1) < 200 - n; omega
        · have hb1 := zeros_stop rest.size n (by omega) (by omega)
          have hn : n = rest.size + 1 + zerosOf rest.size := by omega
          have HN := Lib.hid hn
          have hn2 : n ≤ 128 := by omega
          clear hn hq hn1 hn0
          go_wp2_with fail
          go_loopw [5, 7] (fun v i wr => ∃ j : Nat, j ≤ 8 ∧ i = .int .i64 (56 - 8 * (j : Int)) ∧ OwnB wr w.heap.size v (n + j) (tail0 (bytesOf rest) (n - (rest.size + 1)) ++ sizeBytes (8 * (s.size : Int)) j) ∧ Below w.heap.size w wr ∧ Blk wr w'.heap.size 91 (enc l)) (fun _ i _ => (intOf i + 8).toNat)
          case atStart => exact ⟨0, by omega, rfl, by simpa [sizeBytes] using ho, hw, bk⟩
          case round =>
            clear ho hw bk
            obtain ⟨j, hj, rfl, ho, hw, bk⟩ := hrel
            obtain ⟨A2, c2, hv⟩ := ho.slice_
            subst hv
            by_cases hq : j < 8
            · have hz2 := hw.size
              go_wp2_with ((with_reducible refine gate_dst (N := 50) rfl ?_); go_must (refine appB (w0 := w) rfl (.tmp 44) (.tmp 49) rfl (8 * (s.size : Int) / 2 ^ (56 - 8 * j) % 256) rfl rfl ho hw hz2 (by omega) ?_; intro v4 w4 ho4 hw4 hg4; have bk4 := bk.grown hg4 (ho.ne_blk bk (by decide))))
              go_roundw
              case rel => exact ⟨j + 1, by omega, by go_num, by rw [sizeBytes, ← List.append_assoc]; exact ho4, hw4, bk4⟩
              case measure => simp [intOf]; omega
            · have hj8 : j = 8 := by omega
              have hll := last_of s rest n j HN.out hj8
              rw [hll] at ho
              have hnl : (lastBytes s rest).length = n + j := ho.len
              have HNL := Lib.hid hnl
              clear hll hnl
              have hconv := ho.str
              have HJ := Lib.hid hj8
              clear hj8 hj
              have hlo : 8 ≤ j := by omega
              go_wp2_with fail
              clear hconv
              have hsz : (strOfNums (lastBytes s rest)).size = n + j := by rw [size_strOfNums]; exact HNL.out
              have hmod : (strOfNums (lastBytes s rest)).size % 64 = 0 := by have h1 := HN.out; have h2 := HJ.out; have h3 := zeros_stop rest.size n (by omega) h1; rw [bne_eq_false_iff_eq] at h3; omega
              have hle : (strOfNums (lastBytes s rest)).size ≤ 136 := by have h2 := HJ.out; omega
              obtain ⟨T, hT⟩ : ∃ T, strOfNums (lastBytes s rest) = T := ⟨_, rfl⟩
              rw [hT] at hmod hle
              have HT := Lib.hid hT
              rw [hT]
              clear hT hsz ho
              go_loopw [8] (fun r wr => ∃ (b : ByteArray) (m : List Int), r = .string b ∧ b.size ≤ 136 ∧ b.size % 64 = 0 ∧ m.length = 8 ∧ Blk wr w'.heap.size 91 (enc m) ∧ Below w.heap.size w wr ∧ Hid (chopped kt T l = chopped kt b m)) (fun r _ => match r with | .string b => b.size | _ => 0)
              case atStart => exact ⟨T, l, rfl, hle, hmod, hl, bk, hw, Lib.hid rfl⟩
              case round =>
                clear hle hmod bk hw
                obtain ⟨b, m, rfl, hb, hb64, hm, bk, hw, HC⟩ := hrel
                have hz3 : w.heap.size ≤ wr.heap.size := hw.size
                by_cases hq2 : 64 ≤ b.size
                · have he := not_isEmpty_of_size b (by omega)
                  have he2 : (!b.toList.isEmpty) = true := by simpa using he
                  have hx : (b.extract 0 64).size = 64 := by rw [ByteArray.size_extract]; omega
                  have HX := Lib.hid hx
                  clear hx
                  have HKr : Hid (∀ i : Nat, i < 64 → wr.cell? ⟨0, i, none⟩ = some (.int .u32 (kt[i]?.getD 0))) := Lib.hid fun i hi => (hw.cell (p := ⟨0, i, none⟩) hk0).trans (HK.out i hi)
                  go_wp2_with fail
                  refine (proc_calls kt _ HX.out w'.heap.size _ m hm bk HKT.out (by omega) HKr.out).mono ?_
                  rintro e w5 ⟨rfl, bk5, hg5⟩
                  go_wp2
                  go_roundw
                  case rel => exact ⟨_, process kt (b.extract 0 64) m, rfl, by rw [size_cut]; omega, by rw [size_cut]; omega, process_length _ _ _ hm, bk5, hw.grown hg5 (by omega) (fun k hk => by injection hk with hk; omega), Lib.hid (by rw [HC.out, chopped_step kt b m hq2])⟩
                  case measure => show (b.extract 64 b.size).size < b.size; rw [size_cut]; omega
                · have hb0 : b.size = 0 := by omega
                  have he := isEmpty_of_size b hb0
                  have he2 : (!b.toList.isEmpty) = false := by simpa using he
                  have HC2 : Hid (sumI kt s = strOfNums (words4 m)) := Lib.hid (sumI_of (r := b) HC1.out (by rw [HT.out, HC.out, chopped_done _ _ _ (by omega)]))
                  have HB0 := Lib.hid hb0
                  have hX : lanes (stOf m) = m := lanes_stOf m hm
                  obtain ⟨X, hXm⟩ : ∃ X : St, stOf m = X := ⟨_, rfl⟩
                  rw [hXm] at hX
                  have HX := Lib.hid hX
                  rw [← hX] at bk
                  clear hXm hX hm hb0 HC hb hb64 hq2
                  go_wp2_with (first
                    | ((with_reducible refine gate_dst (N := 60) rfl ?_); go_must (refine makeB (B := w.heap.size) rfl _ _ rfl rfl 32 rfl (by omega) (by omega) (by omega) ?_; intro w6 ho6 hg6; simp only [Int.reduceToNat] at ho6 ⊢; have bk6 := bk.grown hg6 (by simp); have hw6 := hw.grown hg6 hz3 (fun k hk => by cases hk)))
                    | ((with_reducible refine gate_dst (N := 61) rfl ?_); go_must (refine wpList_load_row rfl _ _ rfl w'.heap.size rfl 91 #[.int .u32 X.a, .int .u32 X.b, .int .u32 X.c, .int .u32 X.d, .int .u32 X.e, .int .u32 X.f, .int .u32 X.g, .int .u32 X.h] (0, 0) _ bk6 Tryd.underlying91 rfl (by kernel_rfl) ?_)))
                  go_loopw [9, 62] (fun v i wr => ∃ k : Nat, k ≤ 8 ∧ i = .int .i64 (k : Int) ∧ OwnB wr w.heap.size v (4 * k) (words4 ((lanes X).take k)) ∧ Below w.heap.size w wr) (fun _ i _ => 8 - (intOf i).toNat)
                  case atStart => exact ⟨0, by omega, rfl, by simpa [words4] using ho6, hw6⟩
                  case round =>
                    clear ho6 hw6 bk6 hg6
                    obtain ⟨k, hk, rfl, ho, hw⟩ := hrel
                    obtain ⟨A6, c6, hv⟩ := ho.slice_
                    subst hv
                    have hz4 : w.heap.size ≤ wr.heap.size := hw.size
                    by_cases hq3 : k < 8
                    · have ik := ix8 X k hq3
                      go_wp2_with ((with_reducible refine gate_dst (N := 78) rfl ?_); go_must (refine appManyB (w0 := w) (ys := word4 ((lanes X)[k]?.getD 0)) rfl (.tmp 65) (.tmp 77) rfl 4 rfl _ rfl rfl rfl ho hw hz4 (by omega) ?_; intro v7 w7 ho7 hw7 hg7))
                      go_roundw
                      case rel => exact ⟨k + 1, by omega, by go_num, by rw [words4_take _ _ (by exact hq3)]; exact ho7, hw7⟩
                      case measure => simp [intOf]; omega
                    · have hk8 : k = 8 := by omega
                      have htk : (lanes X).take k = m := by rw [hk8, ← HX.out]; rfl
                      rw [htk] at ho
                      have hconv := ho.str
                      clear hk8 htk hk
                      go_wp2_with fail
                      go_ret
                      rw [HC2.out]
                      exact ⟨rfl, hw⟩
end Go.Proofs.YtjnlppmodagegaaDoor.Sha
