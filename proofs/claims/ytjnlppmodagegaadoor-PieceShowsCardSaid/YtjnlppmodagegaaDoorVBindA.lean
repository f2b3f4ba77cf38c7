/-
  What Check, told, clash and alike answer, as the printed functions have them; and the binding of a commit: two lists of shown lines that Check accepts for one commit are alike, or two different strings that were hashed have one digest. No program in sight but the printed functions.
-/
import Derived.Test.YtjnlppmodagegaaDoorVShow
import Derived.Test.YtjnlppmodagegaaDoorVMerk
import Derived.Test.YtjnlppmodagegaaDoorVPPdx8
namespace Go.Proofs.YtjnlppmodagegaaDoor.PPd
open Go Go.RowKit Go.Proofs.YtjnlppmodagegaaDoorW.PrintWords Go.Proofs.YtjnlppmodagegaaDoorW.PrintMore

abbrev Sh := S45
def HH (x : ByteArray) : ByteArray := Sha.sumI constTab x
theorem HH_size (x : ByteArray) : (HH x).size = 32 := Sha.sumI_size _ _
theorem sum_ok (x : ByteArray) (h : x.size ≤ 70368744177664) : digest_Sum.f x = some (HH x) := by rw [digest_Sum.f, if_pos h]; rfl
theorem tl_eq {a b : ByteArray} : a.toList = b.toList ↔ a = b := by
  rw [ByteArray.toList_eq, ByteArray.toList_eq]
  exact ⟨Merk.ba_ext, fun h => by rw [h]⟩
theorem tl_nil {a : ByteArray} : a.toList = ([] : List UInt8) ↔ a = ByteArray.empty := by
  rw [toList_nil_iff]
  exact ⟨fun h => Merk.ba_ext (List.eq_nil_of_length_eq_zero h), fun h => by rw [h]; rfl⟩
theorem tl_beq (a b : ByteArray) : (a.toList == b.toList) = decide (a = b) := by
  rw [Bool.eq_iff_iff, beq_iff_eq, decide_eq_true_eq, tl_eq]
theorem wsucc (j : Nat) (h : j < 9223372036854775807) : wrap64 ((j : Int) + 1) = ((j + 1 : Nat) : Int) := by rw [wrap64_id _ (by omega)]; omega
theorem rdS_at (l : List Sh) (j : Nat) (h : j < l.length) : rd_T45 l (j : Int) = l[j] := by
  unfold rd_T45; rw [Int.toNat_natCast, List.getD_eq_getElem?_getD, List.getElem?_eq_getElem h, Option.getD_some]
theorem rdB_at (l : List ByteArray) (j : Nat) (h : j < l.length) : rdOf ByteArray.empty l (j : Int) = l[j] := by
  unfold rdOf; rw [Int.toNat_natCast, List.getD_eq_getElem?_getD, List.getElem?_eq_getElem h, Option.getD_some]
theorem drop_at {α : Type} (l : List α) (j : Nat) (h : j < l.length) : l.drop j = l[j] :: l.drop (j + 1) := List.drop_eq_getElem_cons h

/-! ### leaves, soundness, sizes -/
def leafB (x : Sh) : ByteArray := if x.f0 = true then x.f3 else HH ((⟨#[0]⟩ : ByteArray) ++ (x.f1 ++ x.f2))
def soundB (x : Sh) : Bool := if x.f0 = true then (decide (x.f3.size = 32) && decide (x.f1 = ByteArray.empty) && decide (x.f2 = ByteArray.empty)) else (decide (x.f1.size = 16) && decide (x.f3 = ByteArray.empty))
def smlOne (x : Sh) : Prop := x.f1.size ≤ 2000 ∧ x.f2.size ≤ 2000 ∧ x.f3.size ≤ 2000
def sml (l : List Sh) : Prop := l.length ≤ 100 ∧ ∀ x, x ∈ l → smlOne x
def commitB (L : List ByteArray) : ByteArray := HH (Merk.num L.length ++ Merk.root HH L)
theorem leafB_size (x : Sh) (h : smlOne x) : (leafB x).size ≤ 2000 := by
  unfold leafB
  split
  · exact h.2.2
  · rw [HH_size]; omega
theorem leafB_sound (x : Sh) (h : soundB x = true) : (leafB x).size = 32 := by
  unfold leafB
  unfold soundB at h
  split
  · next hf => rw [if_pos hf] at h; simp only [Bool.and_eq_true, decide_eq_true_eq] at h; exact h.1.1
  · exact HH_size _
theorem leaf_at (x : Sh) (h : smlOne x) : missivelaw20_leaf.f x.f0 x.f1 x.f2 x.f3 = some (leafB x) := by
  unfold missivelaw20_leaf.f leafB
  by_cases hf : x.f0 = true
  · rw [if_pos hf, if_pos hf]
  · obtain ⟨h1, h2, h3⟩ := h
    have g1 : 1 + (x.f1 ++ x.f2).size ≤ 9223372036854775807 := by rw [ByteArray.size_append]; omega
    have g2 : ((⟨#[0]⟩ : ByteArray) ++ (x.f1 ++ x.f2)).size ≤ 70368744177664 := by
      rw [ByteArray.size_append, ByteArray.size_append]
      have : (⟨#[0]⟩ : ByteArray).size = 1 := rfl
      omega
    rw [if_neg hf, if_neg hf, if_pos (by omega), merkle_Leaf.f, if_pos g1, sum_ok _ g2]
    rfl

/-! ### the tree -/
theorem split_ok (n : Nat) (h : 2 ≤ n) (hn : n ≤ 4096) : merkle_split.f (n : Int) = some ((Merk.half n : Nat) : Int) := by
  obtain ⟨b1, b2, b3⟩ := Merk.half_bounds n h (by omega)
  have e1 : wrap64 ((n : Int) - 1) = ((n - 1 : Nat) : Int) := by rw [wrap64_id _ (by omega)]; omega
  have e2 : IntKind.u64.wrap ((n - 1 : Nat) : Int) = ((n - 1 : Nat) : Int) := by
    show ((n - 1 : Nat) : Int) % 18446744073709551616 = _
    omega
  have a : 1 ≤ Lib.bitLen (n - 1) ∧ Lib.bitLen (n - 1) ≤ 12 := by
    obtain ⟨p, q, _⟩ := Lib.bitLenAux_bounds 64 (n - 1) (by omega) (by omega)
    refine ⟨p, ?_⟩
    unfold Lib.bitLen
    rcases Nat.lt_or_ge 12 (Lib.bitLenAux 64 (n - 1)) with hh | hh
    · have := Nat.pow_le_pow_right (n := 2) (by omega) (show 12 ≤ Lib.bitLenAux 64 (n - 1) - 1 by omega)
      omega
    · exact hh
  have e3 : wrap64 ((Lib.bitLen (n - 1) : Int) - 1) = ((Lib.bitLen (n - 1) - 1 : Nat) : Int) := by rw [wrap64_id _ (by omega)]; omega
  have e4 : shl .i64 1 ((Lib.bitLen (n - 1) - 1 : Nat) : Int) = ((Merk.half n : Nat) : Int) := by
    have m64 : min (Lib.bitLen (n - 1) - 1) 64 = Lib.bitLen (n - 1) - 1 := by omega
    unfold shl
    rw [Int.toNat_natCast]
    show IntKind.i64.wrap (1 * 2 ^ (min (Lib.bitLen (n - 1) - 1) 64)) = _
    have e5 : (1 * 2 ^ (min (Lib.bitLen (n - 1) - 1) 64) : Int) = ((Merk.half n : Nat) : Int) := by
      rw [m64, Int.one_mul]; unfold Merk.half; rw [Int.natCast_pow]; rfl
    rw [e5]
    exact IntWalk.i64_in _ (by omega)
  have g : (0 : Int) ≤ ((n - 1 : Nat) : Int) ∧ ((n - 1 : Nat) : Int) ≤ 18446744073709551615 := by omega
  have g2 : (0 : Int) ≤ ((Lib.bitLen (n - 1) - 1 : Nat) : Int) := by omega
  rw [merkle_split.f, e1, e2, bits_Len.f, if_pos g, Option.bind_some, Int.toNat_natCast, e3, if_pos g2, e4]
def sized (L : List ByteArray) : Prop := ∀ x, x ∈ L → x.size ≤ 2000
theorem root_le (L : List ByteArray) (h : sized L) (hn : L.length ≤ 4096) : (Merk.root HH L).size ≤ 2000 := by
  match L, h, hn with
  | [], _, _ => rw [Merk.root_nil, HH_size]; omega
  | [x], h, _ => exact h x (by simp)
  | x :: y :: l, _, hn => rw [Merk.root_split _ (by simp) (by omega), HH_size]; omega
theorem sized_take {L : List ByteArray} (h : sized L) (k : Nat) : sized (L.take k) := fun x hx => h x (List.mem_of_mem_take hx)
theorem sized_drop {L : List ByteArray} (h : sized L) (k : Nat) : sized (L.drop k) := fun x hx => h x (List.mem_of_mem_drop hx)
theorem join_ok (a b : ByteArray) (ha : a.size ≤ 2000) (hb : b.size ≤ 2000) : merkle_Join.f a b = some (HH (Merk.node a b)) := by
  have e1 : (⟨#[1]⟩ : ByteArray).size = 1 := rfl
  have g1 : 1 + a.size ≤ 9223372036854775807 := by omega
  have g2 : ((⟨#[1]⟩ : ByteArray) ++ a).size + b.size ≤ 9223372036854775807 := by rw [ByteArray.size_append]; omega
  have g3 : (((⟨#[1]⟩ : ByteArray) ++ a) ++ b).size ≤ 70368744177664 := by rw [ByteArray.size_append, ByteArray.size_append]; omega
  rw [merkle_Join.f, if_pos g1, if_pos g2, sum_ok _ g3]
  rfl
theorem root_ok : ∀ (n : Nat) (L : List ByteArray), L.length ≤ n → L.length ≤ 4096 → sized L → ∀ k, L.length + 1 ≤ k → merkle_Root.f k L = some (Merk.root HH L) := by
  intro n
  induction n with
  | zero =>
    intro L hl _ _ k hk
    obtain ⟨m, rfl⟩ : ∃ m, k = m + 1 := ⟨k - 1, by omega⟩
    have h0 : (L.length : Int) = 0 := by omega
    obtain rfl : L = [] := List.eq_nil_of_length_eq_zero (by omega)
    rw [merkle_Root.f, if_pos h0, sum_ok _ (by show 0 ≤ _; omega)]
    rfl
  | succ n ih =>
    intro L hl hb hs k hk
    obtain ⟨m, rfl⟩ : ∃ m, k = m + 1 := ⟨k - 1, by omega⟩
    rw [merkle_Root.f]
    by_cases h0 : (L.length : Int) = 0
    · obtain rfl : L = [] := List.eq_nil_of_length_eq_zero (by omega)
      rw [if_pos h0, sum_ok _ (by show 0 ≤ _; omega)]
      rfl
    by_cases h1 : (L.length : Int) = 1
    · rw [if_neg h0, if_pos h1, if_pos (by omega)]
      match L, h1 with
      | [x], _ => rfl
    have h2 : 2 ≤ L.length := by omega
    obtain ⟨b1, b2, b3⟩ := Merk.half_bounds L.length h2 (by omega)
    have lt1 : (L.take (Merk.half L.length)).length = Merk.half L.length := by rw [List.length_take]; omega
    have lt2 : (L.drop (Merk.half L.length)).length = L.length - Merk.half L.length := by rw [List.length_drop]
    have r1 := ih (L.take (Merk.half L.length)) (by omega) (by omega) (sized_take hs _) m (by omega)
    have r2 := ih (L.drop (Merk.half L.length)) (by omega) (by omega) (sized_drop hs _) m (by omega)
    have s1 := root_le (L.take (Merk.half L.length)) (sized_take hs _) (by omega)
    have s2 := root_le (L.drop (Merk.half L.length)) (sized_drop hs _) (by omega)
    rw [if_neg h0, if_neg h1, split_ok L.length h2 hb, Option.bind_some, if_pos (by omega), if_pos (by omega), Int.toNat_natCast, r1, Option.bind_some, r2, Option.bind_some, join_ok _ _ s1 s2, Option.bind_some, Merk.root_split L h2 (by omega)]

/-! ### inner -/
theorem inner_len : ∀ (n : Nat) (L : List ByteArray), L.length ≤ n → L.length ≤ 4096 → (Merk.inner HH L).length ≤ L.length := by
  intro n
  induction n with
  | zero => intro L hl _; rw [Merk.inner_small L (by omega)]; simp
  | succ n ih =>
    intro L hl hb
    by_cases h2 : L.length < 2
    · rw [Merk.inner_small L h2]; simp
    obtain ⟨b1, b2, b3⟩ := Merk.half_bounds L.length (by omega) (by omega)
    have lt1 : (L.take (Merk.half L.length)).length = Merk.half L.length := by rw [List.length_take]; omega
    have lt2 : (L.drop (Merk.half L.length)).length = L.length - Merk.half L.length := by rw [List.length_drop]
    have r1 := ih (L.take (Merk.half L.length)) (by omega) (by omega)
    have r2 := ih (L.drop (Merk.half L.length)) (by omega) (by omega)
    have r3 : (L.take (Merk.half L.length)).length < 2 → (Merk.inner HH (L.take (Merk.half L.length))).length = 0 := fun h => by rw [Merk.inner_small _ h]; rfl
    have r4 : (Merk.inner HH (L.take (Merk.half L.length))).length + 1 ≤ (L.take (Merk.half L.length)).length := by
      rcases Nat.lt_or_ge (L.take (Merk.half L.length)).length 2 with h | h
      · have := r3 h; omega
      · obtain ⟨c1, c2, _⟩ := Merk.half_bounds (L.take (Merk.half L.length)).length h (by omega)
        have lt3 : ((L.take (Merk.half L.length)).take (Merk.half (L.take (Merk.half L.length)).length)).length = Merk.half (L.take (Merk.half L.length)).length := by rw [List.length_take]; omega
        exact inner_len_strict _ h (by omega)
    rw [Merk.inner_split L (by omega) (by omega), List.length_append, List.length_cons]
    omega
where
  inner_len_strict (L : List ByteArray) (h : 2 ≤ L.length) (hb : L.length ≤ 4096) : (Merk.inner HH L).length + 1 ≤ L.length := by
    induction hn : L.length using Nat.strongRecOn generalizing L with
    | _ n ih =>
      subst hn
      obtain ⟨b1, b2, b3⟩ := Merk.half_bounds L.length h (by omega)
      have lt1 : (L.take (Merk.half L.length)).length = Merk.half L.length := by rw [List.length_take]; omega
      have lt2 : (L.drop (Merk.half L.length)).length = L.length - Merk.half L.length := by rw [List.length_drop]
      have one : ∀ M : List ByteArray, M.length < L.length → 1 ≤ M.length → M.length ≤ 4096 → (Merk.inner HH M).length + 1 ≤ M.length := fun M h1 h2 h3 => by
        rcases Nat.lt_or_ge M.length 2 with h4 | h4
        · rw [Merk.inner_small _ h4]; simp; omega
        · exact ih M.length h1 M h4 h3 rfl
      have r1 := one (L.take (Merk.half L.length)) (by omega) (by omega) (by omega)
      have r2 := one (L.drop (Merk.half L.length)) (by omega) (by omega) (by omega)
      rw [Merk.inner_split L (by omega) (by omega), List.length_append, List.length_cons]
      omega
theorem inner_ok : ∀ (n : Nat) (L : List ByteArray), L.length ≤ n → L.length ≤ 100 → sized L → ∀ k, 128 * (L.length + 1) ≤ k → missivelaw20_inner.f k L = some (Merk.inner HH L) := by
  intro n
  induction n with
  | zero =>
    intro L hl _ _ k hk
    obtain ⟨m, rfl⟩ : ∃ m, k = m + 1 := ⟨k - 1, by omega⟩
    rw [missivelaw20_inner.f, if_pos (by omega), Merk.inner_small L (by omega)]
  | succ n ih =>
    intro L hl hb hs k hk
    obtain ⟨m, rfl⟩ : ∃ m, k = m + 1 := ⟨k - 1, by omega⟩
    rw [missivelaw20_inner.f]
    by_cases h2 : (L.length : Int) < 2
    · rw [if_pos h2, Merk.inner_small L (by omega)]
    rw [if_neg h2]
    have go : ∀ (d j : Nat), 2 ^ j < L.length → L.length - 2 ^ j ≤ d → ∀ k, d + 1 + 128 * L.length ≤ k → missivelaw20_inner.l0 k L ((2 ^ j : Nat) : Int) = some (Merk.inner HH L) := by
      intro d
      induction d with
      | zero => intro j h1 h3; omega
      | succ d ihd =>
        intro j h1 h3 k hk
        obtain ⟨m, rfl⟩ : ∃ m, k = m + 1 := ⟨k - 1, by omega⟩
        have hp : 0 < 2 ^ j := Nat.two_pow_pos j
        have e2 : wrap64 (2 * ((2 ^ j : Nat) : Int)) = ((2 ^ (j + 1) : Nat) : Int) := by rw [wrap64_id _ (by omega), Nat.pow_succ]; omega
        rw [missivelaw20_inner.l0, e2]
        by_cases h4 : ((2 ^ (j + 1) : Nat) : Int) < (L.length : Int)
        · rw [if_pos h4]
          exact ihd (j + 1) (by omega) (by rw [Nat.pow_succ]; omega) m (by omega)
        · rw [if_neg h4]
          have hh : Merk.half L.length = 2 ^ j := Merk.half_of L.length j (by omega) (by omega) h1 (by rw [Nat.pow_succ] at h4; omega)
          have lt1 : (L.take (2 ^ j)).length = 2 ^ j := by rw [List.length_take]; omega
          have lt2 : (L.drop (2 ^ j)).length = L.length - 2 ^ j := by rw [List.length_drop]
          have r1 := root_ok _ (L.take (2 ^ j)) (Nat.le_refl _) (by omega) (sized_take hs _) m (by omega)
          have r2 := root_ok _ (L.drop (2 ^ j)) (Nat.le_refl _) (by omega) (sized_drop hs _) m (by omega)
          have i1 := ih (L.take (2 ^ j)) (by omega) (by omega) (sized_take hs _) m (by omega)
          have i2 := ih (L.drop (2 ^ j)) (by omega) (by omega) (sized_drop hs _) m (by omega)
          have s1 := root_le (L.take (2 ^ j)) (sized_take hs _) (by omega)
          have s2 := root_le (L.drop (2 ^ j)) (sized_drop hs _) (by omega)
          have n1 := inner_len _ (L.take (2 ^ j)) (Nat.le_refl _) (by omega)
          have n2 := inner_len _ (L.drop (2 ^ j)) (Nat.le_refl _) (by omega)
          have e1 : (⟨#[1]⟩ : ByteArray).size = 1 := rfl
          have g2 : ((⟨#[1]⟩ : ByteArray) ++ Merk.root HH (L.take (2 ^ j))).size + (Merk.root HH (L.drop (2 ^ j))).size ≤ 9223372036854775807 := by rw [ByteArray.size_append]; omega
          have g3 : ([((⟨#[1]⟩ : ByteArray) ++ Merk.root HH (L.take (2 ^ j))) ++ Merk.root HH (L.drop (2 ^ j))] : List ByteArray).length + (Merk.inner HH (L.take (2 ^ j))).length < 8796093022208 := by rw [List.length_singleton]; omega
          have g4 : ([((⟨#[1]⟩ : ByteArray) ++ Merk.root HH (L.take (2 ^ j))) ++ Merk.root HH (L.drop (2 ^ j))] ++ Merk.inner HH (L.take (2 ^ j)) : List ByteArray).length + (Merk.inner HH (L.drop (2 ^ j))).length < 8796093022208 := by rw [List.length_append, List.length_singleton]; omega
          rw [if_pos (by omega), if_pos (by omega), Int.toNat_natCast, r1, Option.bind_some, if_pos (by omega), r2, Option.bind_some, if_pos g2, Option.bind_some, i1, Option.bind_some, if_pos g3, Option.bind_some, i2, Option.bind_some, if_pos g4,
            Merk.inner_split L (by omega) (by omega), hh]
          rfl
    exact go (L.length - 1) 0 (by rw [Nat.pow_zero]; omega) (by rw [Nat.pow_zero]; omega) m (by omega)

/-! ### told -/
def shownOf (x : Sh) : ByteArray := ((⟨#[0]⟩ : ByteArray) ++ x.f1) ++ x.f2
def shownL (l : List Sh) : List ByteArray := (l.filter fun x => !x.f0).map shownOf
def toldB (l : List Sh) : List ByteArray := (shownL l ++ [Merk.num l.length ++ Merk.root HH (l.map leafB)]) ++ Merk.inner HH (l.map leafB)
theorem num_ok (n : Nat) (h : n ≤ 1000000) : wire_Num.f (n : Int) = some (Merk.num n) ∧ (Merk.num n).size ≤ 30 := by
  have g : -9223372036854775808 ≤ (n : Int) ∧ (n : Int) ≤ 9223372036854775807 := by omega
  have hl := Lib.itoa_length_le (n : Int) g.1 g.2
  have e1 : (⟨#[59]⟩ : ByteArray).size = 1 := rfl
  have e2 : (⟨(Lib.itoa (n : Int)).toArray⟩ : ByteArray).size = (Lib.itoa (n : Int)).length := rfl
  refine ⟨?_, ?_⟩
  · rw [wire_Num.f, if_neg (by omega), wire_Int.f, strconv_Itoa.f, if_pos g, Option.bind_some, if_pos (by omega), Option.bind_some]
    rfl
  · unfold Merk.num; rw [ByteArray.size_append]; omega
theorem sized_leaves {l : List Sh} (h : sml l) : sized (l.map leafB) := fun x hx => by
  obtain ⟨y, hy, rfl⟩ := List.mem_map.1 hx
  exact leafB_size y (h.2 y hy)
theorem shownL_len (l : List Sh) : (shownL l).length ≤ l.length := by
  unfold shownL; rw [List.length_map]; exact List.length_filter_le _ _
theorem shownL_snoc (l : List Sh) (x : Sh) : shownL (l ++ [x]) = shownL l ++ (if x.f0 = true then [] else [shownOf x]) := by
  unfold shownL
  rw [List.filter_append, List.map_append]
  congr 1
  cases h : x.f0 <;> simp [h]
theorem told_go (l : List Sh) (hl : sml l) (d : Nat) : ∀ (j : Nat) (L S : List ByteArray), j + d = l.length → L = (l.take j).map leafB → S = shownL (l.take j) → ∀ k, d + 1 + 128 * 101 ≤ k → missivelaw20_told.l0 k l L S (j : Int) = some (toldB l) := by
  have hlen := hl.1
  induction d with
  | zero =>
    intro j L S hj hL hS k hk
    obtain ⟨m, rfl⟩ : ∃ m, k = m + 1 := ⟨k - 1, by omega⟩
    have ht : l.take j = l := List.take_of_length_le (by omega)
    rw [ht] at hL hS
    subst hL hS
    have hll : (l.map leafB).length = l.length := List.length_map _
    obtain ⟨n1, n2⟩ := num_ok l.length (by omega)
    have r1 := root_ok _ (l.map leafB) (Nat.le_refl _) (by omega) (sized_leaves hl) m (by omega)
    have s1 := root_le (l.map leafB) (sized_leaves hl) (by omega)
    have i1 := inner_ok _ (l.map leafB) (Nat.le_refl _) (by omega) (sized_leaves hl) m (by omega)
    have l1 := inner_len _ (l.map leafB) (Nat.le_refl _) (by omega)
    have l2 := shownL_len l
    have g2 : (Merk.num l.length).size + (Merk.root HH (l.map leafB)).size ≤ 9223372036854775807 := by omega
    have g4 : (shownL l ++ [Merk.num l.length ++ Merk.root HH (l.map leafB)]).length + (Merk.inner HH (l.map leafB)).length < 8796093022208 := by rw [List.length_append, List.length_singleton]; omega
    rw [missivelaw20_told.l0, if_neg (by omega), hll, n1, Option.bind_some, r1, Option.bind_some, if_pos g2, if_pos (by omega), Option.bind_some, i1, Option.bind_some, if_pos g4]
    rfl
  | succ d ih =>
    intro j L S hj hL hS k hk
    obtain ⟨m, rfl⟩ : ∃ m, k = m + 1 := ⟨k - 1, by omega⟩
    have hlt : j < l.length := by omega
    have hx := hl.2 l[j] (List.getElem_mem hlt)
    obtain ⟨x1, x2, x3⟩ := hx
    have hLl : L.length = j := by rw [hL, List.length_map, List.length_take]; omega
    have hSl : S.length ≤ j := by rw [hS]; have := shownL_len (l.take j); rw [List.length_take] at this; omega
    have e0 : (⟨#[0]⟩ : ByteArray).size = 1 := rfl
    have ts := List.take_succ_eq_append_getElem hlt
    have nL : L ++ [leafB l[j]] = (l.take (j + 1)).map leafB := by rw [ts, List.map_append, hL]; rfl
    have nS : S ++ (if l[j].f0 = true then [] else [shownOf l[j]]) = shownL (l.take (j + 1)) := by rw [ts, shownL_snoc, hS]
    have g2 : ((⟨#[0]⟩ : ByteArray) ++ l[j].f1).size + l[j].f2.size ≤ 9223372036854775807 := by rw [ByteArray.size_append]; omega
    rw [missivelaw20_told.l0, if_pos (by omega), if_pos (by omega), rdS_at l j hlt, leaf_at _ ⟨x1, x2, x3⟩, Option.bind_some, if_pos (by omega), Option.bind_some, wsucc j (by omega)]
    by_cases hf : l[j].f0 = true
    · rw [if_pos hf, List.append_nil] at nS
      rw [if_pos hf]
      exact ih (j + 1) _ _ (by omega) nL nS m (by omega)
    · rw [if_neg hf] at nS
      rw [if_neg hf, if_pos (by omega), if_pos g2, if_pos (by omega)]
      exact ih (j + 1) _ _ (by omega) nL nS m (by omega)
theorem told_ok (l : List Sh) (hl : sml l) (k : Nat) (hk : 14000 ≤ k) : missivelaw20_told.f k l = some (toldB l) := by
  have := hl.1
  exact told_go l hl l.length 0 [] [] (by omega) rfl rfl k (by omega)
theorem inner_sized : ∀ (n : Nat) (L : List ByteArray), L.length ≤ n → L.length ≤ 4096 → sized L → ∀ x, x ∈ Merk.inner HH L → x.size ≤ 5000 := by
  intro n
  induction n with
  | zero => intro L hl _ _ x hx; rw [Merk.inner_small L (by omega)] at hx; cases hx
  | succ n ih =>
    intro L hl hb hs x hx
    by_cases h2 : L.length < 2
    · rw [Merk.inner_small L h2] at hx; cases hx
    obtain ⟨b1, b2, b3⟩ := Merk.half_bounds L.length (by omega) (by omega)
    have lt1 : (L.take (Merk.half L.length)).length = Merk.half L.length := by rw [List.length_take]; omega
    have lt2 : (L.drop (Merk.half L.length)).length = L.length - Merk.half L.length := by rw [List.length_drop]
    rw [Merk.inner_split L (by omega) (by omega), List.mem_append, List.mem_cons] at hx
    rcases hx with (rfl | hx) | hx
    · have s1 := root_le (L.take (Merk.half L.length)) (sized_take hs _) (by omega)
      have s2 := root_le (L.drop (Merk.half L.length)) (sized_drop hs _) (by omega)
      have e1 : (⟨#[1]⟩ : ByteArray).size = 1 := rfl
      unfold Merk.node
      rw [ByteArray.size_append, ByteArray.size_append]; omega
    · exact ih _ (by omega) (by omega) (sized_take hs _) x hx
    · exact ih _ (by omega) (by omega) (sized_drop hs _) x hx
theorem told_sized (l : List Sh) (hl : sml l) : (toldB l).length ≤ 300 ∧ ∀ x, x ∈ toldB l → x.size ≤ 5000 := by
  have hlen := hl.1
  have hll : (l.map leafB).length = l.length := List.length_map _
  have l1 := inner_len _ (l.map leafB) (Nat.le_refl _) (by omega)
  have l2 := shownL_len l
  refine ⟨by unfold toldB; rw [List.length_append, List.length_append, List.length_singleton]; omega, fun x hx => ?_⟩
  unfold toldB at hx
  rw [List.mem_append, List.mem_append, List.mem_singleton] at hx
  rcases hx with (hx | rfl) | hx
  · unfold shownL at hx
    obtain ⟨y, hy, rfl⟩ := List.mem_map.1 hx
    obtain ⟨h1, h2, _⟩ := hl.2 y (List.mem_filter.1 hy).1
    have e0 : (⟨#[0]⟩ : ByteArray).size = 1 := rfl
    unfold shownOf
    rw [ByteArray.size_append, ByteArray.size_append]; omega
  · have s1 := root_le (l.map leafB) (sized_leaves hl) (by omega)
    have n2 := (num_ok l.length (by omega)).2
    rw [ByteArray.size_append]; omega
  · exact inner_sized _ (l.map leafB) (Nat.le_refl _) (by omega) (sized_leaves hl) x hx

/-! ### clash -/
def hitB (x y : ByteArray) : Bool := decide (HH x = HH y) && !decide (x = y)
def clashB (X Y : List ByteArray) : Bool := X.any fun x => Y.any (hitB x)
theorem clashB_of {X Y : List ByteArray} (h : Merk.Clash HH X Y) : clashB X Y = true := by
  obtain ⟨x, hx, y, hy, h1, h2⟩ := h
  unfold clashB
  rw [List.any_eq_true]
  refine ⟨x, hx, ?_⟩
  rw [List.any_eq_true]
  exact ⟨y, hy, by unfold hitB; rw [decide_eq_true h1, decide_eq_false h2]; rfl⟩
set_option maxRecDepth 100000 in
theorem clash_rows (X Y : List ByteArray) (hX : X.length ≤ 300) (hY : Y.length ≤ 300) (hs : ∀ x, x ∈ X → x.size ≤ 5000) (d : Nat) :
    ∀ (i : Nat), i + d = X.length → ∀ k, d * 400 + 1 ≤ k → missivelaw20_clash.l1 k X Y (Y.map HH) (i : Int) = some (clashB (X.drop i) Y) := by
  induction d with
  | zero =>
    intro i hi k hk
    obtain ⟨m, rfl⟩ : ∃ m, k = m + 1 := ⟨k - 1, by omega⟩
    rw [missivelaw20_clash.l1, if_neg (by omega), List.drop_of_length_le (by omega)]
    rfl
  | succ d ih =>
    intro i hi k hk
    obtain ⟨m, rfl⟩ : ∃ m, k = m + 1 := ⟨k - 1, by omega⟩
    have hlt : i < X.length := by omega
    have hsz := hs X[i] (List.getElem_mem hlt)
    have row : ∀ (e j : Nat), j + e = Y.length → ∀ k, e + 1 + (d * 400 + 1) ≤ k → missivelaw20_clash.l2 k X Y (Y.map HH) (i : Int) (HH X[i]) (j : Int) = some ((Y.drop j).any (hitB X[i]) || clashB (X.drop (i + 1)) Y) := by
      intro e
      induction e with
      | zero =>
        intro j hj k hk
        obtain ⟨m, rfl⟩ : ∃ m, k = m + 1 := ⟨k - 1, by omega⟩
        have hd : Y.drop j = [] := List.drop_of_length_le (by omega)
        have hm : d * 400 + 1 ≤ m := by omega
        have hi1 : i + 1 + d = X.length := by omega
        have hn := ih (i + 1) hi1 m hm
        rw [missivelaw20_clash.l2, if_neg (by omega), wsucc i (by omega), hn, hd]
        rfl
      | succ e ihe =>
        intro j hj k hk
        obtain ⟨m, rfl⟩ : ∃ m, k = m + 1 := ⟨k - 1, by omega⟩
        have hjl : j < Y.length := by omega
        have hml : (Y.map HH).length = Y.length := List.length_map _
        have hn := ihe (j + 1) (by omega) m (by omega)
        rw [missivelaw20_clash.l2, if_pos (by omega), if_pos (by omega), if_pos (by rw [hml]; omega), rdB_at (Y.map HH) j (by omega), List.getElem_map, rdB_at X i hlt, rdB_at Y j hjl, wsucc j (by omega), hn, drop_at Y j hjl, List.any_cons]
        by_cases h1 : HH X[i] = HH Y[j]
        · rw [if_pos (tl_eq.2 h1), if_pos (by omega), if_pos (by omega)]
          by_cases h2 : X[i] = Y[j]
          · rw [if_pos (tl_eq.2 h2)]
            have : hitB X[i] Y[j] = false := by unfold hitB; rw [decide_eq_true h2]; simp
            rw [this, Bool.false_or]
          · rw [if_neg (fun h => h2 (tl_eq.1 h))]
            have : hitB X[i] Y[j] = true := by unfold hitB; rw [decide_eq_true h1, decide_eq_false h2]; rfl
            rw [this, Bool.true_or, Bool.true_or]
        · rw [if_neg (fun h => h1 (tl_eq.1 h))]
          have : hitB X[i] Y[j] = false := by unfold hitB; rw [decide_eq_false h1]; rfl
          rw [this, Bool.false_or]
    rw [missivelaw20_clash.l1, if_pos (by omega), if_pos (by omega), rdB_at X i hlt, sum_ok _ (by omega), Option.bind_some]
    have h0 := row Y.length 0 (by omega) m (by omega)
    rw [List.drop_zero] at h0
    have e0 : ((0 : Nat) : Int) = 0 := rfl
    rw [e0] at h0
    rw [h0, drop_at X i hlt]
    rfl
theorem clash_sums (X Y : List ByteArray) (hX : X.length ≤ 300) (hY : Y.length ≤ 300) (hs : ∀ x, x ∈ X → x.size ≤ 5000) (hs2 : ∀ x, x ∈ Y → x.size ≤ 5000) (d : Nat) :
    ∀ (j : Nat) (S : List ByteArray), j + d = Y.length → S = (Y.take j).map HH → ∀ k, d + 1 + (300 * 400 + 1) ≤ k → missivelaw20_clash.l0 k X Y S (j : Int) = some (clashB X Y) := by
  induction d with
  | zero =>
    intro j S hj hS k hk
    obtain ⟨m, rfl⟩ : ∃ m, k = m + 1 := ⟨k - 1, by omega⟩
    rw [List.take_of_length_le (by omega)] at hS
    have := clash_rows X Y hX hY hs X.length 0 (by omega) m (by omega)
    rw [List.drop_zero] at this
    rw [missivelaw20_clash.l0, if_neg (by omega), hS]
    exact this
  | succ d ih =>
    intro j S hj hS k hk
    obtain ⟨m, rfl⟩ : ∃ m, k = m + 1 := ⟨k - 1, by omega⟩
    have hlt : j < Y.length := by omega
    have hsz := hs2 Y[j] (List.getElem_mem hlt)
    have hSl : S.length ≤ j := by rw [hS, List.length_map, List.length_take]; omega
    rw [missivelaw20_clash.l0, if_pos (by omega), if_pos (by omega), rdB_at Y j hlt, sum_ok _ (by omega), Option.bind_some, if_pos (by omega), wsucc j (by omega)]
    exact ih (j + 1) _ (by omega) (by rw [List.take_succ_eq_append_getElem hlt, List.map_append, hS]; rfl) m (by omega)
theorem clash_ok (a b : List Sh) (ha : sml a) (hb : sml b) (k : Nat) (hk : 140000 ≤ k) : missivelaw20_clash.f k a b = some (clashB (toldB a) (toldB b)) := by
  obtain ⟨a1, a2⟩ := told_sized a ha
  obtain ⟨b1, b2⟩ := told_sized b hb
  rw [missivelaw20_clash.f, told_ok a ha k (by omega), Option.bind_some, told_ok b hb k (by omega), Option.bind_some]
  exact clash_sums _ _ a1 b1 a2 b2 (toldB b).length 0 [] (by omega) rfl k (by omega)

/-! ### Check -/
theorem commit_ok (L : List ByteArray) (hL : L.length ≤ 4096) (hs : sized L) (k : Nat) (hk : L.length + 1 ≤ k) : piece_commit.f k L = some (commitB L) := by
  obtain ⟨n1, n2⟩ := num_ok L.length (by omega)
  have r1 := root_ok _ L (Nat.le_refl _) hL hs k hk
  have s1 := root_le L hs hL
  have g2 : (Merk.num L.length).size + (Merk.root HH L).size ≤ 9223372036854775807 := by omega
  have g3 : (Merk.num L.length ++ Merk.root HH L).size ≤ 70368744177664 := by rw [ByteArray.size_append]; omega
  rw [piece_commit.f, n1, Option.bind_some, r1, Option.bind_some, if_pos g2, sum_ok _ g3, Option.bind_some]
  rfl
def checkB (a : ByteArray) (l : List Sh) : Bool := l.all soundB && decide (commitB (l.map leafB) = a)
theorem check_go (a : ByteArray) (l : List Sh) (hl : sml l) (d : Nat) : ∀ (j : Nat) (L : List ByteArray), j + d = l.length → L = (l.take j).map leafB → ∀ k, 2 * d + 200 ≤ k →
    piece_Check.l0 k a L l (l.length : Int) (j : Int) = some ((l.drop j).all soundB && decide (commitB (l.map leafB) = a)) := by
  have hlen := hl.1
  induction d with
  | zero =>
    intro j L hj hL k hk
    obtain ⟨m, rfl⟩ : ∃ m, k = m + 1 := ⟨k - 1, by omega⟩
    rw [List.take_of_length_le (by omega)] at hL
    have hll : (l.map leafB).length = l.length := List.length_map _
    rw [piece_Check.l0, if_neg (by omega), hL, commit_ok _ (by omega) (sized_leaves hl) m (by omega), Option.bind_some, List.drop_of_length_le (by omega), tl_beq]
    rfl
  | succ d ih =>
    intro j L hj hL k hk
    obtain ⟨m, rfl⟩ : ∃ m, k = m + 2 := ⟨k - 2, by omega⟩
    have hlt : j < l.length := by omega
    have hx := hl.2 l[j] (List.getElem_mem hlt)
    have hLl : L.length = j := by rw [hL, List.length_map, List.length_take]; omega
    have nL : L ++ [leafB l[j]] = (l.take (j + 1)).map leafB := by rw [List.take_succ_eq_append_getElem hlt, List.map_append, hL]; rfl
    have next := ih (j + 1) _ (by omega) nL m (by omega)
    rw [piece_Check.l0, if_pos (by omega), if_pos (by omega), if_pos (by omega), rdS_at l j hlt, drop_at l j hlt, List.all_cons, Bool.and_assoc]
    by_cases hf : l[j].f0 = true
    · have e : leafB l[j] = l[j].f3 := by unfold leafB; rw [if_pos hf]
      have es : soundB l[j] = (decide (l[j].f3.size = 32) && decide (l[j].f1 = ByteArray.empty) && decide (l[j].f2 = ByteArray.empty)) := by unfold soundB; rw [if_pos hf]
      have no : piece_Check.j1 (m + 1) a L l (l.length : Int) (j : Int) false l[j].f0 l[j].f1 l[j].f2 l[j].f3 = some false := by
        rw [piece_Check.j1, if_neg (by simp), if_pos hf]
      rw [if_pos hf]
      by_cases c1 : l[j].f3.size = 32
      · rw [if_pos (by omega)]
        by_cases c2 : l[j].f1 = ByteArray.empty
        · rw [if_pos (tl_nil.2 c2)]
          by_cases c3 : l[j].f2 = ByteArray.empty
          · have b3 : (l[j].f2.toList == ([] : List UInt8)) = true := by rw [beq_iff_eq]; exact tl_nil.2 c3
            rw [b3, piece_Check.j1, if_pos rfl, if_pos (by omega), wsucc j (by omega), ← e, next, es, decide_eq_true c1, decide_eq_true c2, decide_eq_true c3]
            rfl
          · have b3 : (l[j].f2.toList == ([] : List UInt8)) = false := by rw [← Bool.not_eq_true, beq_iff_eq]; exact fun h => c3 (tl_nil.1 h)
            rw [b3, no, es, decide_eq_false c3]
            simp
        · rw [if_neg (fun h => c2 (tl_nil.1 h)), no, es, decide_eq_false c2]
          simp
      · rw [if_neg (by omega), no, es, decide_eq_false c1]
        simp
    · have es : soundB l[j] = (decide (l[j].f1.size = 16) && decide (l[j].f3 = ByteArray.empty)) := by unfold soundB; rw [if_neg hf]
      rw [if_neg hf, piece_Check.j1, if_neg (by simp), if_neg hf, es]
      by_cases c1 : l[j].f1.size = 16
      · rw [if_pos (by omega), decide_eq_true c1, Bool.true_and]
        by_cases c2 : l[j].f3 = ByteArray.empty
        · obtain ⟨x1, x2, x3⟩ := hx
          have e := leaf_at l[j] ⟨x1, x2, x3⟩
          rw [missivelaw20_leaf.f, if_neg hf, if_pos (by omega)] at e
          have e2 : merkle_Leaf.f (l[j].f1 ++ l[j].f2) = some (leafB l[j]) := by
            rw [← e]
            cases merkle_Leaf.f (l[j].f1 ++ l[j].f2) <;> rfl
          rw [if_pos (tl_nil.2 c2), if_pos (by omega), e2, Option.bind_some, if_pos (by omega), wsucc j (by omega), next, decide_eq_true c2, Bool.true_and]
        · rw [if_neg (fun h => c2 (tl_nil.1 h)), decide_eq_false c2]
          rfl
      · rw [if_neg (by omega), decide_eq_false c1]
        simp
theorem check_ok (a : ByteArray) (l : List Sh) (hl : sml l) (k : Nat) (hk : 400 ≤ k) : piece_Check.f k a l = some (checkB a l) := by
  have := hl.1
  exact check_go a l hl l.length 0 [] (by omega) rfl k (by omega)

/-! ### the binding -/
theorem HHs : ∀ x, (HH x).size = 32 := HH_size
def okPair (x y : Sh) : Prop := leafB x = leafB y ∧ (¬ x.f0 = true → ¬ y.f0 = true → x = y)
theorem leaves32 {l : List Sh} (h : l.all soundB = true) : ∀ x, x ∈ l.map leafB → x.size = 32 := fun x hx => by
  obtain ⟨y, hy, rfl⟩ := List.mem_map.1 hx
  exact leafB_sound y (List.all_eq_true.1 h y hy)
theorem mem_shown {l : List Sh} {x : Sh} (hx : x ∈ l) (hf : ¬ x.f0 = true) : shownOf x ∈ toldB l := by
  unfold toldB shownL
  refine List.mem_append_left _ (List.mem_append_left _ (List.mem_map.2 ⟨x, List.mem_filter.2 ⟨hx, ?_⟩, rfl⟩))
  cases h : x.f0
  · rfl
  · exact absurd h hf
theorem binds (c : ByteArray) (a b : List Sh) (ha : sml a) (hb : sml b) (hca : checkB c a = true) (hcb : checkB c b = true) :
    (a.length = b.length ∧ ∀ i (h1 : i < a.length) (h2 : i < b.length), okPair a[i] b[i]) ∨ Merk.Clash HH (toldB a) (toldB b) := by
  unfold checkB at hca hcb
  rw [Bool.and_eq_true, decide_eq_true_eq] at hca hcb
  obtain ⟨sa, ca⟩ := hca
  obtain ⟨sb, cb⟩ := hcb
  have la := ha.1
  have lb := hb.1
  have lla : (a.map leafB).length = a.length := List.length_map _
  have llb : (b.map leafB).length = b.length := List.length_map _
  have hc : commitB (a.map leafB) = commitB (b.map leafB) := by rw [ca, cb]
  unfold commitB at hc
  rw [lla, llb] at hc
  have ma : Merk.num a.length ++ Merk.root HH (a.map leafB) ∈ toldB a := by unfold toldB; simp
  have mb : Merk.num b.length ++ Merk.root HH (b.map leafB) ∈ toldB b := by unfold toldB; simp
  by_cases e : Merk.num a.length ++ Merk.root HH (a.map leafB) = Merk.num b.length ++ Merk.root HH (b.map leafB)
  · obtain ⟨e1, e2⟩ := Merk.num_inj e
    rcases Merk.roots HHs _ (a.map leafB) (b.map leafB) (Nat.le_refl _) (by omega) (by omega) (leaves32 sa) (leaves32 sb) e2 with h | h
    · by_cases all : ∀ i (h1 : i < a.length) (h2 : i < b.length), okPair a[i] b[i]
      · exact Or.inl ⟨e1, all⟩
      · right
        obtain ⟨i, h1⟩ := Classical.not_forall.1 all
        obtain ⟨h1, h2⟩ := Classical.not_forall.1 h1
        obtain ⟨h2, h3⟩ := Classical.not_forall.1 h2
        have hle : leafB a[i] = leafB b[i] := by
          have h5 : (a.map leafB)[i]? = (b.map leafB)[i]? := by rw [h]
          rw [List.getElem?_map, List.getElem?_map, List.getElem?_eq_getElem h1, List.getElem?_eq_getElem h2] at h5
          exact Option.some.inj h5
        have h4 : ¬ (¬ a[i].f0 = true → ¬ b[i].f0 = true → a[i] = b[i]) := fun h4 => h3 ⟨hle, h4⟩
        obtain ⟨fa, h4⟩ := Classical.not_imp.1 h4
        obtain ⟨fb, h4⟩ := Classical.not_imp.1 h4
        have xa := List.all_eq_true.1 sa _ (List.getElem_mem h1)
        have xb := List.all_eq_true.1 sb _ (List.getElem_mem h2)
        unfold soundB at xa xb
        rw [if_neg fa, Bool.and_eq_true, decide_eq_true_eq, decide_eq_true_eq] at xa
        rw [if_neg fb, Bool.and_eq_true, decide_eq_true_eq, decide_eq_true_eq] at xb
        unfold leafB at hle
        rw [if_neg fa, if_neg fb] at hle
        have k1 : ∀ x : Sh, (⟨#[0]⟩ : ByteArray) ++ (x.f1 ++ x.f2) = shownOf x := fun x => by unfold shownOf; rw [ByteArray.append_assoc]
        rw [k1, k1] at hle
        refine ⟨_, mem_shown (List.getElem_mem h1) fa, _, mem_shown (List.getElem_mem h2) fb, hle, fun he => h4 ?_⟩
        unfold shownOf at he
        obtain ⟨he1, he2⟩ := Merk.app_inj he (by rw [ByteArray.size_append, ByteArray.size_append, xa.1, xb.1])
        obtain ⟨_, he3⟩ := Merk.app_inj he1 rfl
        have ef : a[i].f0 = b[i].f0 := by rw [Bool.eq_iff_iff]; exact ⟨fun h => absurd h fa, fun h => absurd h fb⟩
        have e3 : a[i].f3 = b[i].f3 := by rw [xa.2, xb.2]
        revert he2 he3 ef e3
        generalize a[i] = x
        generalize b[i] = y
        obtain ⟨p0, p1, p2, p3⟩ := x
        obtain ⟨q0, q1, q2, q3⟩ := y
        intro h1 h2 h3 h4
        simp only at h1 h2 h3 h4
        rw [h1, h2, h3, h4]
    · exact Or.inr (h.mono (fun z hz => by unfold toldB; exact List.mem_append_right _ hz) (fun z hz => by unfold toldB; exact List.mem_append_right _ hz))
  · exact Or.inr ⟨_, ma, _, mb, hc, e⟩

end Go.Proofs.YtjnlppmodagegaaDoor.PPd
