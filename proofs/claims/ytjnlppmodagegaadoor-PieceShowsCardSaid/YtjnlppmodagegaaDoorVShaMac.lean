/-
  The walks of digest.padded and digest.Mac.
-/
import Derived.Test.YtjnlppmodagegaaDoorVShaSum
import Derived.Lib.BufferWrite
import Derived.Lib.SlBuf
import Derived.Laws.CopyOwn
namespace Go.Proofs.YtjnlppmodagegaaDoor.Sha
open Go Go.RowKit Words Bytes Go.Proofs.YtjnlppmodagegaaDoorW.PrintWords Go.Proofs.YtjnlppmodagegaaDoorW.PrintLast

def enc8 (l : List Int) : Array Value := (nums .u8 l).toArray
theorem enc8_get (l : List Int) (k : Nat) (h : k < l.length) : (enc8 l)[k]? = some (.int .u8 (l[k]?.getD 0)) := by
  simp [enc8, nums, h]
theorem enc8_set (l : List Int) (k : Nat) (v : Int) : (enc8 l).setIfInBounds k (.int .u8 v) = enc8 (l.set k v) := by
  simp [enc8, nums, List.map_set]
def keyCells (key : ByteArray) : List Int := bytesOf key ++ List.replicate (64 - key.size) 0
theorem keyCells_length (key : ByteArray) (h : key.size ≤ 64) : (keyCells key).length = 64 := by
  simp [keyCells, bytesOf_length]; omega
def xorTo (l : List Int) (x : Int) : Nat → List Int
  | 0 => l
  | k + 1 => (xorTo l x k).set k (bits .xor .u8 ((xorTo l x k)[k]?.getD 0) x)
theorem xorTo_length (l : List Int) (x : Int) (k : Nat) : (xorTo l x k).length = l.length := by
  induction k with
  | zero => rfl
  | succ k ih => simp [xorTo, ih]
def padI (key : ByteArray) (x : Int) : ByteArray := strOfNums (xorTo (keyCells key) x 64)

theorem pad_cells (key : ByteArray) (n : Nat) : ((enc8 (List.replicate n 0)).toList.take 0 ++ Lib.byteCells key.data.toList ++ (enc8 (List.replicate n 0)).toList.drop (0 + key.size)).toArray = enc8 (bytesOf key ++ List.replicate (n - key.size) 0) := by
  simp [enc8, nums, bytesOf, Lib.byteCells, Function.comp_def]
theorem pad_world (key : ByteArray) (hk : key.size ≤ 64) (w : World) :
    ∃ w1, (Builtin.copy_ #[59, 9] 3 #[.slice (some ⟨w.heap.size, 0, none⟩) 64 64, .string key]).run Tryd.prog (w.alloc (.cells (enc8 (List.replicate 64 0)) 141)) = .ok (goInt key.size) w1 ∧
      Blk w1 w.heap.size 141 (enc8 (keyCells key)) ∧ Below w.heap.size w w1 := by
  have hg := heap_alloc_new w (.cells (enc8 (List.replicate 64 0)) 141)
  have hsz : (enc8 (List.replicate 64 0)).size = 64 := by simp [enc8, nums]
  have hr := Lib.run_copy_row_string (P := Tryd.prog) (w.alloc (.cells (enc8 (List.replicate 64 0)) 141)) 59 9 3 5 w.heap.size 0 64 64 key (enc8 (List.replicate 64 0)) 141 Tryd.underlying59 (by kernel_rfl) hg (by omega) (by rw [hsz]; omega)
  refine ⟨_, hr, ?_, ?_⟩
  · have h2 := setRow_heap (w.alloc (.cells (enc8 (List.replicate 64 0)) 141)) w.heap.size (enc8 (List.replicate 64 0)) ((enc8 (List.replicate 64 0)).toList.take 0 ++ Lib.byteCells key.data.toList ++ (enc8 (List.replicate 64 0)).toList.drop (0 + key.size)).toArray 141 (0, 0) hg
    have he : ((enc8 (List.replicate 64 0)).toList.take 0 ++ Lib.byteCells key.data.toList ++ (enc8 (List.replicate 64 0)).toList.drop (0 + key.size)).toArray = enc8 (keyCells key) := by
      exact pad_cells key 64
    rw [he] at h2
    unfold Blk
    rw [he]
    exact h2
  · exact below_setRow ((Below.refl _ _).alloc (Nat.le_refl _) _) (Nat.le_refl _) _

set_option maxHeartbeats 4000000 in
set_option maxRecDepth 100000 in
theorem padded_any (key : ByteArray) (hk : key.size ≤ 64) (x : Int) (w : World) :
    Calls Tryd.prog 98 #[.string key, .int .u8 x] w fun e w' => e = .returned (.string (padI key x)) ∧ Below w.heap.size w w' := by
  obtain ⟨w1, hrun, bk1, hw1⟩ := pad_world key hk w
  have HR := Lib.hid hrun
  clear hrun
  go_enter Tryd.func98, Tryd.ntmps98
  go_wp2_with ((with_reducible refine gate_dst (N := 9) rfl ?_); go_must (refine Lib.wpList_copy_run _ rfl (.tmp 7) (.tmp 8) 59 9 rfl (.slice (some ⟨w.heap.size, 0, none⟩) 64 64) (.string key) rfl rfl HR.out ?_))
  go_loopw [10] (fun i wr => ∃ k : Nat, k ≤ 64 ∧ i = .int .i64 (k : Int) ∧ Blk wr w.heap.size 141 (enc8 (xorTo (keyCells key) x k)) ∧ Below w.heap.size w wr) (fun i _ => 64 - (intOf i).toNat)
  case atStart => exact ⟨0, by omega, rfl, bk1, hw1⟩
  case round =>
    clear bk1 hw1
    obtain ⟨k, hk2, rfl, bk, hw⟩ := hrel
    have hl : (xorTo (keyCells key) x k).length = 64 := by rw [xorTo_length, keyCells_length _ hk]
    by_cases hq : k < 64
    · have c1 := bk.cell k
      rw [enc8_get _ _ (by omega)] at c1
      have f1 := bk.frozen k
      have x3 : (k : Int) < 64 := by omega
      clear hl
      go_wp2
      go_roundw
      case rel => exact ⟨k + 1, by omega, by go_num, by rw [xorTo, ← enc8_set]; exact bk.set_ _ _, hw.setCell (p := ⟨w.heap.size, k, none⟩) (Nat.le_refl _) _⟩
      case measure => simp [intOf]; omega
    · have hk64 : k = 64 := by omega
      rw [hk64] at bk hl
      clear hk64
      have hconv := run_convert_bytes_arg (P := Tryd.prog) wr 59 5 Tryd.underlying59 Tryd.underlying5 w.heap.size 0 64 64 _ hl (fun i hi => by
        rw [Nat.zero_add, bk.cell i, enc8_get _ _ (by omega), List.getD_eq_getElem?_getD]) 9 Tryd.underlying9
      clear hl
      go_wp2
      go_ret
      exact ⟨rfl, hw⟩

theorem padI_size (key : ByteArray) (hk : key.size ≤ 64) (x : Int) : (padI key x).size = 64 := by
  unfold padI
  rw [size_strOfNums, xorTo_length, keyCells_length _ hk]
def macShort (kt : List Int) (key s : ByteArray) : ByteArray := sumI kt (padI key 92 ++ sumI kt (padI key 54 ++ s))
def macI (kt : List Int) (key s : ByteArray) : ByteArray := macShort kt (if 64 < key.size then sumI kt key else key) s

set_option maxRecDepth 100000 in
theorem mac_any (key s : ByteArray) (hk : key.size ≤ 70368744177664) (hs : s.size ≤ 70368744177000) (w : World) (kt : List Int)
    (hkt : kt.length = 64) (hk0 : 0 < w.heap.size) (hkc : ∀ i : Nat, i < 64 → w.cell? ⟨0, i, none⟩ = some (.int .u32 (kt[i]?.getD 0))) :
    Calls Tryd.prog 61 #[.string key, .string s] w fun e w' => e = .returned (.string (macI kt key s)) ∧ Below w.heap.size w w' := by
  have HK := Lib.hid hkc
  have HKT := Lib.hid hkt
  clear hkc hkt
  have hmac : ∀ k : ByteArray, k.size ≤ 64 → (padI k 54 ++ s).size ≤ 70368744177664 ∧ (padI k 92 ++ sumI kt (padI k 54 ++ s)).size ≤ 70368744177664 := fun k hk => by
    rw [ByteArray.size_append, ByteArray.size_append, padI_size _ hk, padI_size _ hk, sumI_size]; omega
  by_cases hq : 64 < key.size
  · have e : macI kt key s = macShort kt (sumI kt key) s := by rw [macI, if_pos hq]
    rw [e]
    have HM := Lib.hid (hmac (sumI kt key) (by rw [sumI_size]; omega))
    have HS : Hid ((sumI kt key).size = 32) := Lib.hid (sumI_size kt key)
    clear hmac e
    go_enter Tryd.func61, Tryd.ntmps61
    go_wp2_with fail
    refine (sum_any key hk _ kt HKT.out hk0 HK.out).mono ?_
    rintro e w1 ⟨rfl, hw1⟩
    have hz1 := hw1.size
    have hks : (sumI kt key).size ≤ 64 := by rw [sumI_size]; omega
    go_wp2_with fail
    refine (padded_any (sumI kt key) hks 92 _).mono ?_
    rintro e w2 ⟨rfl, hw2⟩
    go_wp2_with fail
    refine (padded_any (sumI kt key) hks 54 _).mono ?_
    rintro e w3 ⟨rfl, hw3⟩
    have hb3 : Below w.heap.size w w3 := ((hw1.trans (hw2.mono hz1)).trans (hw3.mono (Nat.le_trans hz1 hw2.size)))
    have hz3 := hb3.size
    clear hw2 hw3
    have ha1 : 64 + s.size ≤ 9223372036854775807 := by omega
    have hc1 : (padI (sumI kt key) 54).size + s.size ≤ 9223372036854775807 := by rw [padI_size _ hks]; omega
    go_wp2_with fail
    refine (sum_any _ HM.out.1 _ kt HKT.out (by omega) (fun i hi => (hb3.cell (p := ⟨0, i, none⟩) hk0).trans (HK.out i hi))).mono ?_
    rintro e w4 ⟨rfl, hw4⟩
    have hb4 : Below w.heap.size w w4 := hb3.trans (hw4.mono hz3)
    have hz4 := hb4.size
    have hc2 : (padI (sumI kt key) 92).size + (sumI kt (padI (sumI kt key) 54 ++ s)).size ≤ 9223372036854775807 := by rw [padI_size _ hks, sumI_size]; omega
    go_wp2_with fail
    refine (sum_any _ HM.out.2 _ kt HKT.out (by omega) (fun i hi => (hb4.cell (p := ⟨0, i, none⟩) hk0).trans (HK.out i hi))).mono ?_
    rintro e w5 ⟨rfl, hw5⟩
    go_wp2_with fail
    go_ret
    exact ⟨rfl, hb4.trans (hw5.mono hz4)⟩
  · have e : macI kt key s = macShort kt key s := by rw [macI, if_neg hq]
    rw [e]
    have HM := Lib.hid (hmac key (by omega))
    have hks : key.size ≤ 64 := by omega
    clear hmac e
    go_enter Tryd.func61, Tryd.ntmps61
    go_wp2_with fail
    refine (padded_any key hks 92 _).mono ?_
    rintro e w2 ⟨rfl, hw2⟩
    go_wp2_with fail
    refine (padded_any key hks 54 _).mono ?_
    rintro e w3 ⟨rfl, hw3⟩
    have hb3 : Below w.heap.size w w3 := (((Below.refl _ _).trans (hw2.mono (Nat.le_refl _))).trans (hw3.mono (Nat.le_trans (Nat.le_refl _) hw2.size)))
    have hz3 := hb3.size
    clear hw2 hw3
    have ha1 : 64 + s.size ≤ 9223372036854775807 := by omega
    have hc1 : (padI key 54).size + s.size ≤ 9223372036854775807 := by rw [padI_size _ hks]; omega
    go_wp2_with fail
    refine (sum_any _ HM.out.1 _ kt HKT.out (by omega) (fun i hi => (hb3.cell (p := ⟨0, i, none⟩) hk0).trans (HK.out i hi))).mono ?_
    rintro e w4 ⟨rfl, hw4⟩
    have hb4 : Below w.heap.size w w4 := hb3.trans (hw4.mono hz3)
    have hz4 := hb4.size
    have hc2 : (padI key 92).size + (sumI kt (padI key 54 ++ s)).size ≤ 9223372036854775807 := by rw [padI_size _ hks, sumI_size]; omega
    go_wp2_with fail
    refine (sum_any _ HM.out.2 _ kt HKT.out (by omega) (fun i hi => (hb4.cell (p := ⟨0, i, none⟩) hk0).trans (HK.out i hi))).mono ?_
    rintro e w5 ⟨rfl, hw5⟩
    go_wp2_with fail
    go_ret
    exact ⟨rfl, hb4.trans (hw5.mono hz4)⟩
end Go.Proofs.YtjnlppmodagegaaDoor.Sha
