/-
  The last bytes of what is hashed, as the walk spells them. No program in sight.
-/
import Derived.Test.YtjnlppmodagegaaDoorVShaInt
import Derived.Test.YtjnlppmodagegaaDoorVWWords
namespace Go.Proofs.YtjnlppmodagegaaDoor.Sha
open Go Go.RowKit Go.Proofs.YtjnlppmodagegaaDoorW.PrintWords
/-! ### the last bytes -/
/-- how many zero bytes follow the mark -/
def zerosOf (r : Nat) : Nat := (119 - r) % 64
def sizeBytes (n : Int) : Nat → List Int
  | 0 => []
  | j + 1 => sizeBytes n j ++ [n / 2 ^ (56 - 8 * j) % 256]
def tail0 (rest : List Int) (z : Nat) : List Int := rest ++ [128] ++ List.replicate z 0
theorem tail0_succ (rest : List Int) (z : Nat) : tail0 rest (z + 1) = tail0 rest z ++ [0] := by
  simp [tail0, List.replicate_succ']
theorem tail0_length (rest : List Int) (z : Nat) : (tail0 rest z).length = rest.length + 1 + z := by simp [tail0]; omega
theorem zeros_lt (r : Nat) : zerosOf r < 64 := Nat.mod_lt _ (by omega)
theorem zeros_stop (r n : Nat) (hr : r < 64) (hn : n = r + 1 + zerosOf r) : (((n : Nat) : Int) % 64 != 56) = false := by
  have h : n % 64 = 56 := by subst hn; unfold zerosOf; omega
  rw [bne_eq_false_iff_eq]; omega
theorem zeros_more (r n : Nat) (hr : r < 64) (h0 : r + 1 ≤ n) (hn : n < r + 1 + zerosOf r) : (((n : Nat) : Int) % 64 != 56) = true := by
  have h : n % 64 ≠ 56 := by unfold zerosOf at hn; omega
  rw [bne_iff_ne]; omega
theorem tail0_next (rest : List Int) (r n : Nat) (h : r + 1 ≤ n) : tail0 rest (n + 1 - (r + 1)) = tail0 rest (n - (r + 1)) ++ [0] := by
  rw [show n + 1 - (r + 1) = (n - (r + 1)) + 1 by omega, tail0_succ]
theorem sizeBytes_length (n : Int) (j : Nat) : (sizeBytes n j).length = j := by
  induction j with
  | zero => rfl
  | succ j ih => simp [sizeBytes, ih]
/-- all that is hashed behind the whole blocks -/
def lastBytes (s rest : ByteArray) : List Int := tail0 (bytesOf rest) (zerosOf rest.size) ++ sizeBytes (8 * (s.size : Int)) 8
theorem last_of (s rest : ByteArray) (n j : Nat) (hn : n = rest.size + 1 + zerosOf rest.size) (hj : j = 8) : tail0 (bytesOf rest) (n - (rest.size + 1)) ++ sizeBytes (8 * (s.size : Int)) j = lastBytes s rest := by
  subst hj; subst hn
  rw [show rest.size + 1 + zerosOf rest.size - (rest.size + 1) = zerosOf rest.size by omega]; rfl
theorem size_strOfNums (xs : List Int) : (strOfNums xs).size = xs.length := by
  simp [strOfNums, ByteArray.size]
theorem isEmpty_of_size (r : ByteArray) (h : r.size = 0) : r.toList = [] := by
  rw [ByteArray.toList_eq]
  have : r.data.toList.length = 0 := by rw [data_length]; exact h
  exact List.eq_nil_of_length_eq_zero this
theorem not_isEmpty_of_size (r : ByteArray) (h : 0 < r.size) : ¬ r.toList = [] := by
  rw [ByteArray.toList_eq]
  intro e
  have := data_length r
  rw [e] at this
  simp at this
  omega
/-- the four bytes of a word -/
def word4 (x : Int) : List Int := [x / 16777216 % 256, x / 65536 % 256, x / 256 % 256, x % 256]
def words4 : List Int → List Int
  | [] => []
  | x :: l => word4 x ++ words4 l
theorem words4_append (l m : List Int) : words4 (l ++ m) = words4 l ++ words4 m := by
  induction l with
  | nil => rfl
  | cons x l ih => simp [words4, ih]
theorem words4_take (l : List Int) (k : Nat) (h : k < l.length) : words4 (l.take (k + 1)) = words4 (l.take k) ++ word4 (l[k]?.getD 0) := by
  rw [List.take_succ_eq_append_getElem h, words4_append]; simp [words4, h]
theorem words4_length (l : List Int) : (words4 l).length = 4 * l.length := by
  induction l with
  | nil => rfl
  | cons x l ih => simp [words4, word4, ih]; omega
theorem chop_length (kt : List Int) : ∀ (n : Nat) (r : ByteArray) (l : List Int), l.length = 8 → (chop kt n r l).1.length = 8
  | 0, _, _, h => h
  | n + 1, r, l, h => by
    rw [chop]
    by_cases hq : 64 ≤ r.size
    · rw [if_pos hq]; exact chop_length kt n _ _ (process_length _ _ _ h)
    · rw [if_neg hq]; exact h
/-- the digest, in the walk's spelling -/
def sumI (kt : List Int) (s : ByteArray) : ByteArray :=
  let p := chopped kt s begin0
  strOfNums (words4 (chopped kt (strOfNums (lastBytes s p.2)) p.1).1)
theorem sumI_size (kt : List Int) (s : ByteArray) : (sumI kt s).size = 32 := by
  unfold sumI
  rw [size_strOfNums, words4_length]
  unfold chopped
  rw [chop_length _ _ _ _ (chop_length _ _ _ _ rfl)]
theorem sumI_of {kt : List Int} {s rest r : ByteArray} {l m : List Int} (h : chopped kt s begin0 = (l, rest)) (h2 : chopped kt (strOfNums (lastBytes s rest)) l = (m, r)) : sumI kt s = strOfNums (words4 m) := by
  simp [sumI, h, h2]
end Go.Proofs.YtjnlppmodagegaaDoor.Sha
