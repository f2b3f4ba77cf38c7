/-
  The digest as the walk spells it: on integers and lists of integers. No program in sight.
-/
import Derived.Laws.BitsAllLaws
import Derived.Laws.BitsLemmas
import Derived.WalkKit
import Derived.Lib.Hide
namespace Go.Proofs.YtjnlppmodagegaaDoor.Sha
open Go Go.RowKit

/-- the cells of a row of 32-bit words -/
def enc (l : List Int) : Array Value := (l.map (Value.int .u32)).toArray
theorem enc_get (l : List Int) (k : Nat) (h : k < l.length) : (enc l)[k]? = some (.int .u32 (l[k]?.getD 0)) := by
  simp [enc, h]
theorem enc_set (l : List Int) (k : Nat) (v : Int) : (enc l).setIfInBounds k (.int .u32 v) = enc (l.set k v) := by
  simp [enc, List.map_set]

def byteAt (s : ByteArray) (i : Nat) : Int := ((s.data[i]?.getD 0).toNat : Int)
theorem byteAt_eq (s : ByteArray) (i : Nat) (h : i < s.size) : (s[i].toNat : Int) = byteAt s i := by
  have h' : i < s.data.size := h
  unfold byteAt; rw [Array.getElem?_eq_getElem h']; rfl

/-- the words of a block: the inner loop, the outer loop -/
def inner (s : ByteArray) (k : Nat) : Nat → List Int → List Int
  | 0, l => l
  | j + 1, l => (inner s k j l).set k (bits .or .u32 ((inner s k j l)[k]?.getD 0 * 256 % 4294967296) (byteAt s (4 * k + j) % 4294967296))
def filled (s : ByteArray) : Nat → List Int
  | 0 => List.replicate 64 0
  | k + 1 => inner s k 4 (filled s k)
theorem inner_length (s : ByteArray) (k j : Nat) (l : List Int) : (inner s k j l).length = l.length := by
  induction j with
  | zero => rfl
  | succ j ih => simp [inner, ih]
theorem filled_length (s : ByteArray) (k : Nat) : (filled s k).length = 64 := by
  induction k with
  | zero => simp [filled]
  | succ j ih => rw [filled, inner_length, ih]
theorem inner_step (s : ByteArray) (k j : Nat) (l : List Int) (h : 4 * k + j < s.size) :
    (enc (inner s k j l)).setIfInBounds k (.int .u32 (bits .or .u32 ((inner s k j l)[k]?.getD 0 * 256 % 4294967296) ((s[4 * k + j].toNat : Int) % 4294967296))) = enc (inner s k (j + 1) l) := by
  rw [enc_set, byteAt_eq]; rfl

/-- a rotation, as the code reckons it -/
def cnt (k : Int) : Nat := (bits .and .u64 (IntKind.u64.wrap k) 31).toNat
def rotI (x k : Int) : Int := bits .or .u32 (x * 2 ^ cnt k % 4294967296) (x / 2 ^ (32 - cnt k))
theorem count_of (m : Nat) (h0 : 0 < m) (h1 : m < 32) : bits .and .u64 (IntKind.u64.wrap (-(m : Int))) 31 = ((32 - m : Nat) : Int) := by
  have h2 : IntKind.u64.wrap (-(m : Int)) = ((18446744073709551616 - m : Nat) : Int) := by simp [IntKind.wrap, IntKind.bits, IntKind.signed]; omega
  rw [h2, u64_and _ _ (by omega) (by omega) (by omega) (by omega)]
  have e : (31 : Int).toNat = 2 ^ 5 - 1 := rfl
  rw [e, Nat.and_two_pow_sub_one_eq_mod, Int.toNat_natCast]
  congr 1
  omega
theorem cnt_of (m : Nat) (h0 : 0 < m) (h1 : m < 32) : cnt (-(m : Int)) = 32 - m := by
  unfold cnt; rw [count_of m h0 h1, Int.toNat_natCast]

/-- the schedule -/
def sig0 (x : Int) : Int := bits .xor .u32 (bits .xor .u32 (rotI x (-7)) (rotI x (-18))) (x / 8)
def sig1 (x : Int) : Int := bits .xor .u32 (bits .xor .u32 (rotI x (-17)) (rotI x (-19))) (x / 1024)
def schedStep (l : List Int) (i : Nat) : List Int :=
  l.set i ((l[i - 16]?.getD 0 + sig0 (l[i - 15]?.getD 0) + l[i - 7]?.getD 0 + sig1 (l[i - 2]?.getD 0)) % 4294967296)
def sched (l : List Int) : Nat → List Int
  | 0 => l
  | k + 1 => schedStep (sched l k) (16 + k)
theorem sched_length (l : List Int) (k : Nat) : (sched l k).length = l.length := by
  induction k with
  | zero => rfl
  | succ j ih => simp [sched, schedStep, ih]
theorem sched_step (l : List Int) (i : Nat) (h : 16 ≤ i) : sched l (i + 1 - 16) = schedStep (sched l (i - 16)) i := by
  obtain ⟨k, rfl⟩ : ∃ k, i = 16 + k := ⟨i - 16, by omega⟩
  rw [show 16 + k + 1 - 16 = k + 1 by omega, show 16 + k - 16 = k by omega]; rfl

/-- the whole schedule of a block -/
def table (s : ByteArray) : List Int := sched (filled s 16) 48
theorem table_length (s : ByteArray) : (table s).length = 64 := by rw [table, sched_length, filled_length]
theorem table_of (s : ByteArray) (k : Nat) (h : k = 64) : sched (filled s 16) (k - 16) = table s := by subst h; rfl

/-- the rounds -/
def big1 (e : Int) : Int := bits .xor .u32 (bits .xor .u32 (rotI e (-6)) (rotI e (-11))) (rotI e (-25))
def big0 (a : Int) : Int := bits .xor .u32 (bits .xor .u32 (rotI a (-2)) (rotI a (-13))) (rotI a (-22))
def chI (e f g : Int) : Int := bits .xor .u32 (bits .and .u32 e f) (bits .and .u32 (bits .xor .u32 (if IntKind.u32.signed = true then -1 else IntKind.u32.max) e) g)
def majI (a b c : Int) : Int := bits .xor .u32 (bits .xor .u32 (bits .and .u32 a b) (bits .and .u32 a c)) (bits .and .u32 b c)
structure St where
  a : Int
  b : Int
  c : Int
  d : Int
  e : Int
  f : Int
  g : Int
  h : Int

def stepT (x : St) (kc wc : Int) : Int := (x.h + big1 x.e + (chI x.e x.f x.g + kc + wc)) % 4294967296
def stepU (x : St) : Int := (big0 x.a + majI x.a x.b x.c) % 4294967296
def round (x : St) (kc wc : Int) : St := ⟨(stepT x kc wc + stepU x) % 4294967296, x.a, x.b, x.c, (x.d + stepT x kc wc) % 4294967296, x.e, x.f, x.g⟩
def rounds (kt wt : List Int) (x : St) : Nat → St
  | 0 => x
  | k + 1 => round (rounds kt wt x k) (kt[k]?.getD 0) (wt[k]?.getD 0)

/-- the state behind the block -/
def lanes (x : St) : List Int := [x.a, x.b, x.c, x.d, x.e, x.f, x.g, x.h]
def addTo (l m : List Int) : Nat → List Int
  | 0 => l
  | k + 1 => (addTo l m k).set k (((addTo l m k)[k]?.getD 0 + m[k]?.getD 0) % 4294967296)
theorem addTo_length (l m : List Int) (k : Nat) : (addTo l m k).length = l.length := by
  induction k with
  | zero => rfl
  | succ j ih => simp [addTo, ih]
def process (kt : List Int) (s : ByteArray) (l : List Int) : List Int :=
  let x : St := ⟨l[0]?.getD 0, l[1]?.getD 0, l[2]?.getD 0, l[3]?.getD 0, l[4]?.getD 0, l[5]?.getD 0, l[6]?.getD 0, l[7]?.getD 0⟩
  addTo l (lanes (rounds kt (table s) x 64)) 8

/-! ### the state as a list; one block -/
def stOf (l : List Int) : St := ⟨l[0]?.getD 0, l[1]?.getD 0, l[2]?.getD 0, l[3]?.getD 0, l[4]?.getD 0, l[5]?.getD 0, l[6]?.getD 0, l[7]?.getD 0⟩
theorem lanes_stOf (l : List Int) (h : l.length = 8) : lanes (stOf l) = l := by
  match l, h with
  | [a, b, c, d, e, f, g, i], _ => rfl
theorem process_eq (kt : List Int) (s : ByteArray) (l : List Int) : process kt s l = addTo l (lanes (rounds kt (table s) (stOf l) 64)) 8 := rfl
theorem process_length (kt : List Int) (s : ByteArray) (l : List Int) (h : l.length = 8) : (process kt s l).length = 8 := by rw [process_eq, addTo_length, h]

/-! ### the whole blocks of a string -/
def chop (kt : List Int) : Nat → ByteArray → List Int → List Int × ByteArray
  | 0, r, l => (l, r)
  | n + 1, r, l => if 64 ≤ r.size then chop kt n (r.extract 64 r.size) (process kt (r.extract 0 64) l) else (l, r)
def chopped (kt : List Int) (r : ByteArray) (l : List Int) : List Int × ByteArray := chop kt (r.size / 64) r l
theorem size_cut (r : ByteArray) : (r.extract 64 r.size).size = r.size - 64 := by rw [ByteArray.size_extract]; omega
theorem chopped_step (kt : List Int) (r : ByteArray) (l : List Int) (h : 64 ≤ r.size) : chopped kt r l = chopped kt (r.extract 64 r.size) (process kt (r.extract 0 64) l) := by
  unfold chopped
  rw [size_cut, show r.size / 64 = (r.size - 64) / 64 + 1 by omega, chop, if_pos h]
theorem chopped_done (kt : List Int) (r : ByteArray) (l : List Int) (h : ¬ 64 ≤ r.size) : chopped kt r l = (l, r) := by
  unfold chopped
  rw [show r.size / 64 = 0 by omega, chop]
def begin0 : List Int := [1779033703, 3144134277, 1013904242, 2773480762, 1359893119, 2600822924, 528734635, 1541459225]
end Go.Proofs.YtjnlppmodagegaaDoor.Sha
