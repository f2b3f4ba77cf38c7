/-
  Reading elements of slices that came in, by natural numbers.
-/
import Derived.Test.YtjnlppmodagegaaDoorVWWords
import Derived.Lib.AppendIntMem
namespace Go.Proofs.YtjnlppmodagegaaDoor
open Go Go.RowKit Go.Proofs.YtjnlppmodagegaaDoorW.PrintWords
theorem at_str {w : World} {A : Option Addr} {n : Nat} {xs : List ByteArray} (h : Kd.C Kd.string w A n xs) (k : Nat) (hk : k < n) :
    ∃ ad, A = some ad ∧ w.cell? (ad.add k) = some (.string (xs[k]?.getD ByteArray.empty)) := by
  obtain ⟨ad, c, e, _, hK, hc⟩ := Kd.C_get h ByteArray.empty (k : Int) (by omega) (by omega)
  have hc0 : c = [.string (xs[k]?.getD ByteArray.empty)] := by
    have : c = [.string (xs.getD (k : Int).toNat ByteArray.empty)] := hK
    rw [this, Int.toNat_natCast, List.getD_eq_getElem?_getD]
  subst hc0
  have := hc 0 _ rfl
  simp only [Int.toNat_natCast, Nat.add_zero] at this
  have h1 : k * Kd.string.sz = k := Nat.mul_one k
  rw [h1] at this
  exact ⟨ad, e, this⟩
theorem size_mk_ (a : Array UInt8) : (⟨a⟩ : ByteArray).size = a.size := rfl
theorem flat_take {α : Type} (f : α → List UInt8) (l : List α) (k : Nat) (d : α) (h : k < l.length) : (l.take (k + 1)).flatMap f = (l.take k).flatMap f ++ f (l[k]?.getD d) := by
  rw [List.take_succ_eq_append_getElem h, List.flatMap_append]; simp [h]
theorem flat_le {α : Type} (f : α → List UInt8) (l : List α) (k : Nat) : ((l.take k).flatMap f).length ≤ (l.flatMap f).length := by
  have h : l.flatMap f = (l.take k).flatMap f ++ (l.drop k).flatMap f := by rw [← List.flatMap_append, List.take_append_drop]
  rw [h, List.length_append]; omega
end Go.Proofs.YtjnlppmodagegaaDoor
