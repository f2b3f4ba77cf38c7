/-
  What the row's arguments are: a slice of spans, a slice of shown lines, as lists.
-/
import Derived.Test.YtjnlppmodagegaaDoorVPPdx0
import Derived.Deep.SlicePairs
import Derived.ChangeSame
import Derived.Tactics

namespace Go.Proofs.YtjnlppmodagegaaDoor.PPd
open Go Go.RowKit Go.Proofs.YtjnlppmodagegaaDoorW.PrintWords Go.ChangeShapes Go.Deep

section
variable {H : Type} {enc : TypeId × Value → H} {W : World} {base : Nat} {spare : Nat → Bool} {held : Bool}
theorem cells43 : Tryd.prog.cellsOf 43 = 2 := by kernel_rfl
theorem cells3 : Tryd.prog.cellsOf 3 = 1 := by kernel_rfl
theorem cells45 : Tryd.prog.cellsOf 45 = 4 := by kernel_rfl
theorem cells4 : Tryd.prog.cellsOf 4 = 1 := by kernel_rfl
theorem cells9 : Tryd.prog.cellsOf 9 = 1 := by kernel_rfl
def numOf : Value → Int | .int _ q => q | _ => 0
theorem open_spans {A : Option Addr} {n c : Nat} {d : DataW H} {ps : List MemPlace} (h : DataW.Trod enc Tryd.prog W base spare held 35 (.slice A n c) d ps) :
    ∃ l : List S43, l.length = n ∧ n ≤ c ∧ Kd.C k43 W A n l := by
  obtain ⟨fuel, hf⟩ := h
  rcases open_slice_pairs Tryd.underlying35 Tryd.underlying43 cells43 rfl rfl cells3 cells3 hf with ⟨hcs, _⟩ | ⟨a, len, cap, m, n', V0, V1, D0, D1, P0, P1, hcs, _, hl, hm, hmm, _, hx⟩
  · simp [Value.cells] at hcs
    obtain ⟨rfl, rfl, rfl⟩ := hcs
    exact ⟨[], rfl, Nat.le_refl _, rfl, by omega, fun h => absurd h (by omega)⟩
  · simp [Value.cells] at hcs
    obtain ⟨rfl, rfl, rfl⟩ := hcs
    have hlm : n ≤ m := by rw [hmm]; split <;> omega
    refine ⟨(List.range n).map fun i => ⟨numOf (V0 i), numOf (V1 i)⟩, by simp, hl, by simp, by have := hm; simp only [maxLen] at this; omega, fun _ => ⟨a, rfl, fun j p hp => ?_⟩⟩
    have hj : j < n := by
      have := (List.getElem?_eq_some_iff.1 hp).1
      simpa using this
    obtain ⟨c0, c1, t0, t1⟩ := hx j (by omega)
    obtain ⟨x0, e0, _, _⟩ := DataW.trod_int Tryd.underlying3 t0
    obtain ⟨x1, e1, _, _⟩ := DataW.trod_int Tryd.underlying3 t1
    injection e0 with e0
    injection e1 with e1
    rw [e0] at c0
    rw [e1] at c1
    have hp2 : p = ⟨x0, x1⟩ := by
      rw [List.getElem?_map, List.getElem?_range hj] at hp
      simp only [Option.map_some, Option.some.injEq] at hp
      rw [← hp, e0, e1]; rfl
    subst hp2
    refine ⟨[.int .i64 x0, .int .i64 x1], rfl, k43_mk W _, fun i u hu => ?_⟩
    match i, hu with
    | 0, hu => obtain rfl := Option.some.inj hu; exact c0
    | 1, hu => obtain rfl := Option.some.inj hu; exact c1
def boolOf : Value → Bool | .bool b => b | _ => false
def strOf : Value → ByteArray | .string s => s | _ => ByteArray.empty
set_option maxRecDepth 100000 in
theorem open_shown {A : Option Addr} {n c : Nat} {d : DataW H} {ps : List MemPlace} (h : DataW.Trod enc Tryd.prog W base spare held 39 (.slice A n c) d ps) :
    ∃ l : List S45, l.length = n ∧ n ≤ c ∧ Kd.C k45 W A n l := by
  obtain ⟨fuel, hf⟩ := h
  rcases open_slice Tryd.underlying39 hf with ⟨hcs, _⟩ | ⟨a, len, cap, m, n', D, Pl, hcs, _, hl, hm, hmm, _, hx⟩
  · simp [Value.cells] at hcs
    obtain ⟨rfl, rfl, rfl⟩ := hcs
    exact ⟨[], rfl, Nat.le_refl _, rfl, by omega, fun h => absurd h (by omega)⟩
  · simp [Value.cells] at hcs
    obtain ⟨rfl, rfl, rfl⟩ := hcs
    have hlm : n ≤ m := by rw [hmm]; split <;> omega
    have each : ∀ i, i < n → ∃ x : S45, ∀ j u, [Value.bool x.f0, .string x.f1, .string x.f2, .string x.f3][j]? = some u → W.cell? (a.add (i * 4 + j)) = some u := by
      intro i hi
      obtain ⟨cs, h1, h2⟩ := hx i (by omega)
      rw [cells45] at h1
      obtain ⟨_, hlen, hcell⟩ := World.cells?_some h1
      obtain ⟨xs, k, _, _, _, hxl, hfl⟩ := DataW.trod_struct Tryd.underlying45 h2
      match xs, hxl, cs, hlen with
      | [y0, y1, y2, y3], _, [v0, v1, v2, v3], _ =>
        have g0 := hfl 0 _ rfl
        have g1 := hfl 1 _ rfl
        have g2 := hfl 2 _ rfl
        have g3 := hfl 3 _ rfl
        simp [cells4, cells9] at g0 g1 g2 g3
        obtain ⟨x0, e0, _⟩ := DataW.trod_bool Tryd.underlying4 g0
        obtain ⟨x1, e1, _⟩ := DataW.trod_string Tryd.underlying9 g1
        obtain ⟨x2, e2, _⟩ := DataW.trod_string Tryd.underlying9 g2
        obtain ⟨x3, e3, _⟩ := DataW.trod_string Tryd.underlying9 g3
        injection e0 with e0
        injection e1 with e1
        injection e2 with e2
        injection e3 with e3
        subst e0 e1 e2 e3
        refine ⟨⟨x0, x1, x2, x3⟩, fun j u hu => ?_⟩
        have hj : j < 4 := (List.getElem?_eq_some_iff.1 hu).1
        have := hcell j hj
        rw [Go.Deep.add_add] at this
        rw [this]
        exact hu
    have inst : Inhabited S45 := ⟨z45⟩
    obtain ⟨X, hX⟩ := choose_lt each
    refine ⟨(List.range n).map X, by simp, hl, by simp, by have := hm; simp only [maxLen] at this; omega, fun _ => ⟨a, rfl, fun j p hp => ?_⟩⟩
    have hj : j < n := by
      have := (List.getElem?_eq_some_iff.1 hp).1
      simpa using this
    have hp2 : X j = p := by
      rw [List.getElem?_map, List.getElem?_range hj] at hp
      simpa using hp
    subst hp2
    exact ⟨_, rfl, k45_mk W _, hX j hj⟩
end
end Go.Proofs.YtjnlppmodagegaaDoor.PPd
