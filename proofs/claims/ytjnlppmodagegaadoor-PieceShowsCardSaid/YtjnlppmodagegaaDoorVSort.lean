/-
  slices.SortFunc with piece.Hide's closure, over a row of spans that the call owns: a permutation, sorted by From, in the same block.
-/
import Derived.Test.YtjnlppmodagegaaDoorVShelfSort
import Derived.Test.YtjnlppmodagegaaDoorVWords
import Derived.Test.YtjnlppmodagegaaDoorVWWords
import Derived.Test.YtjnlppmodagegaaDoorVW7
import Derived.WalkKit
import Derived.Lib.Hide
namespace Go.Proofs.YtjnlppmodagegaaDoor.SortSpan
open Go Go.RowKit Words Go.Sort Go.Lib Go.Shelf Go.Proofs.YtjnlppmodagegaaDoorW.PrintWords

def encS (x : Int × Int) : List Value := [.int .i64 x.1, .int .i64 x.2]
def cellsS (xs : List (Int × Int)) : List Value := xs.flatMap encS
theorem cellsS_length (xs : List (Int × Int)) : (cellsS xs).length = xs.length * 2 := by
  unfold cellsS
  induction xs with
  | nil => rfl
  | cons x l ih => rw [List.flatMap_cons, List.length_append, ih]; simp [encS]; omega
theorem cellsS_get (xs : List (Int × Int)) (t : Nat) (h : t < xs.length * 2) : (cellsS xs)[t]? = some ((encS (xs[t / 2]?.getD default))[t % 2]!) := by
  unfold cellsS
  induction xs generalizing t with
  | nil => simp at h
  | cons x l ih =>
    rw [List.flatMap_cons]
    match t, h with
    | 0, _ => simp [encS]
    | 1, _ => simp [encS]
    | t + 2, h =>
      have h2 : t < l.length * 2 := by simp at h; omega
      rw [List.getElem?_append_right (by simp [encS])]
      have e : t + 2 - (encS x).length = t := by simp [encS]
      rw [e, ih t h2]
      have d : (t + 2) / 2 = t / 2 + 1 := by omega
      have m : (t + 2) % 2 = t % 2 := by omega
      rw [d, m, List.getElem?_cons_succ]
theorem flat_cells (xs : List (Int × Int)) (t : Nat) (h : t < xs.length * 2) : (flatK encS 2 xs.toArray)[t]! = (encS (xs[t / 2]?.getD default))[t % 2]! := by
  rw [get_flatK _ _ _ _ (by simpa using h)]
  congr 2
  have : t / 2 < xs.length := by omega
  simp [this]

/-- the closure: 'cmp.Compare(a.From, b.From)': two blocks are laid -/
theorem closure (x y : Int × Int) (W : World) : Calls Tryd.prog 71 #[.agg #[.int .i64 x.1, .int .i64 x.2], .agg #[.int .i64 y.1, .int .i64 y.2]] W fun e w' => e = .returned (.int .i64 (Lib.compareInt x.1 y.1)) ∧ ∃ q os', w' = grow (W.drewN q) os' := by
  have hcon := fun W' => AnyG.cmp_Compare_int Tryd.cmpInt x.1 y.1 W'
  change ∀ W', Calls Tryd.prog 72 _ _ _ at hcon
  generalize Lib.compareInt x.1 y.1 = r at hcon ⊢
  go_enter Tryd.func71, Tryd.ntmps71
  go_wp2_with (go_at_call 72; refine (hcon _).mono ?_; rintro e w' ⟨rfl, rfl⟩)
  go_ret
  exact ⟨rfl, 0, _, by rw [alloc_eq_grow, alloc_eq_grow, grow_grow]; rfl⟩
theorem cmpLays (blk off size : Nat) (w : World) : CmpLays Tryd.prog 71 #[] encS 2 (fun x y => Lib.compareInt x.1 y.1) blk off size w :=
  fun _ _ _ _ x y => closure x y _
theorem ltFrom (x y : Int × Int) : ltOf (fun x y : Int × Int => Lib.compareInt x.1 y.1) x y = decide (x.1 < y.1) := by
  unfold ltOf Lib.compareInt
  by_cases h1 : x.1 < y.1
  · simp [h1]
  · by_cases h2 : y.1 < x.1 <;> simp [h1, h2]
theorem swo : SWO (ltOf fun x y : Int × Int => Lib.compareInt x.1 y.1) where
  irrefl x := by rw [ltFrom]; simp
  trans x y z h1 h2 := by rw [ltFrom] at *; simp at *; omega
  ntrans x y z h1 h2 := by rw [ltFrom] at *; simp at *; omega

theorem putCells_take (F cur : Array Value) (h : F.size ≤ cur.size) : (putCells id 0 F cur).toList.take F.size = F.toList := by
  apply List.ext_getElem?
  intro t
  rw [List.getElem?_take]
  by_cases ht : t < F.size
  · rw [if_pos ht, Array.getElem?_toList, Array.getElem?_toList]
    unfold putCells
    rw [Array.getElem?_mapIdx, Array.getElem?_eq_getElem (by omega : t < cur.size), Array.getElem?_eq_getElem ht]
    simp only [Option.map_some, Nat.sub_zero, Nat.zero_add, Nat.zero_le, true_and, ht, if_true, id]
    rw [getElem!_pos F t ht]
  · rw [if_neg ht, List.getElem?_eq_none (by simpa using Nat.le_of_not_lt ht)]
theorem flat_toList (ys : List (Int × Int)) : (flatK encS 2 ys.toArray).toList = cellsS ys := by
  apply List.ext_getElem?
  intro t
  rw [Array.getElem?_toList]
  by_cases ht : t < ys.length * 2
  · rw [cellsS_get ys t ht, Array.getElem?_eq_getElem (by simpa using ht), ← flat_cells ys t ht, getElem!_pos]
  · rw [Array.getElem?_eq_none (by simpa using Nat.le_of_not_lt ht), List.getElem?_eq_none (by rw [cellsS_length]; omega)]
theorem own_sorted (B n cap g m : Nat) (e : TypeId) (xs ys : List (Int × Int)) (w : World) (os : Array Obj) (hy : ys.length = n) (hown : w.ownsRow B e 2 (.slice (some ⟨g, 0, none⟩) n cap) n (cellsS xs)) :
    (sortWorldK encS 2 w g 0 m ys.toArray os).ownsRow B e 2 (.slice (some ⟨g, 0, none⟩) n cap) n (cellsS ys) ∧ w.grownBy (sortWorldK encS 2 w g 0 m ys.toArray os) (some g) := by
  rcases hown.2 with ⟨h, _⟩ | ⟨g', cap', cur, h, hB, hg, h1, h2, h3, h4⟩
  · cases h
  injection h with h5 h6 h7
  injection h5 with h5
  injection h5 with h5
  subst h5
  subst h7
  have hgl : g < w.heap.size := by
    rcases Nat.lt_or_ge g w.heap.size with h | h
    · exact h
    · rw [Array.getElem?_eq_none h] at hg; cases hg
  have hh : (sortWorldK encS 2 w g 0 m ys.toArray os).heap = w.heap.modify g (onCells (putCells id 0 (flatK encS 2 ys.toArray))) ++ os := rfl
  have hF : (flatK encS 2 ys.toArray).size = n * 2 := by simp [hy]
  have hle : n * 2 ≤ cap * 2 := by omega
  refine ⟨⟨by rw [cellsS_length, hy], .inr ⟨g, cap, putCells id 0 (flatK encS 2 ys.toArray) cur, rfl, hB, ?_, h1, h2, ?_, ?_⟩⟩, ?_⟩
  · rw [hh, Array.getElem?_append_left (by simpa using hgl), Array.getElem?_modify, if_pos rfl, hg]; rfl
  · unfold putCells; rw [Array.size_mapIdx]; exact h3
  · rw [← hF, putCells_take _ _ (by rw [hF, h3]; exact hle), flat_toList]
  · refine ⟨rfl, rfl, rfl, by rw [hh]; simp, fun k hk hne => ?_⟩
    have hk2 : g ≠ k := fun e => hne (by rw [e])
    rw [hh, Array.getElem?_append_left (by simpa using hk), Array.getElem?_modify, if_neg hk2]
set_option maxHeartbeats 1000000 in
theorem sort_any (B n cap g : Nat) (xs : List (Int × Int)) (w : World) (hn : xs.length = n) (hn2 : n ≤ 70368744177664) (hown : w.ownsRow B 43 2 (.slice (some ⟨g, 0, none⟩) n cap) n (cellsS xs)) :
    Calls Tryd.prog 70 #[.slice (some ⟨g, 0, none⟩) n cap, .func (.func 71) #[] #[]] w fun e w' => e = .returned (.tuple #[]) ∧
      ∃ ys : List (Int × Int), ys.Perm xs ∧ ys.Pairwise (fun a b => a.1 ≤ b.1) ∧ w'.ownsRow B 43 2 (.slice (some ⟨g, 0, none⟩) n cap) n (cellsS ys) ∧ w.grownBy w' (some g) := by
  obtain ⟨hgl, hB⟩ : g < w.heap.size ∧ B ≤ g := ⟨(hown.lt g rfl).2, (hown.lt g rfl).1⟩
  have hH : HoldsK encS 2 w g 0 xs.toArray := by
    intro j hj
    rw [size_flatK] at hj
    have hj2 : j < xs.length * 2 := by simpa using hj
    rw [Nat.zero_add, flat_cells xs j hj2]
    refine ⟨?_, hown.frozenAt j⟩
    rw [hown.cellAt j (by omega), cellsS_get xs j hj2]
    rfl
  have eg : ∀ args w, (callFunc 71 args).run Tryd.prog w = .ok (.enter 71 args) w := enters_of Tryd.func71 (by kernel_rfl) rfl
  have hcon := AnyQ.slices_SortFunc Tryd.sortSpan 2 Tryd.isAgg43 Tryd.sizeOf43 encS (fun _ => rfl) (fun x v hv => by simp [encS] at hv; rcases hv with rfl | rfl <;> rfl) (fun x y => Lib.compareInt x.1 y.1) swo 71 #[] g 0 cap xs.toArray w eg (cmpLays g 0 _ w) hH hgl (by simp; omega)
  rw [List.size_toArray, hn] at hcon
  change Calls Tryd.prog 70 _ _ _ at hcon
  refine hcon.mono ?_
  rintro e w' ⟨he, d', m, os, ⟨hs, _, hp⟩, hso, rfl⟩
  have hyl : d'.toList.length = n := by rw [Array.length_toList, hs]; simpa using hn
  have hown' := own_sorted B n cap g m _ xs d'.toList w os hyl hown
  refine ⟨he, d'.toList, ?_, ?_, hown'.1, hown'.2⟩
  · have e1 : (d'.extract 0 n).toList = d'.toList := by rw [Array.toList_extract, List.extract_eq_take_drop, List.drop_zero]; exact List.take_of_length_le (by omega)
    have e2 : (xs.toArray.extract 0 n).toList = xs := by rw [Array.toList_extract, List.extract_eq_take_drop, List.drop_zero]; exact List.take_of_length_le (by simp; omega)
    rw [e1, e2] at hp
    exact hp
  · rw [List.pairwise_iff_getElem]
    intro i j hi hj hij
    have h := hso i j (Nat.zero_le _) hij (by omega)
    rw [ltFrom, getElem!_pos d' j (by simpa using hj), getElem!_pos d' i (by simpa using hi)] at h
    simp only [Array.getElem_toList]
    simpa using h
end Go.Proofs.YtjnlppmodagegaaDoor.SortSpan
