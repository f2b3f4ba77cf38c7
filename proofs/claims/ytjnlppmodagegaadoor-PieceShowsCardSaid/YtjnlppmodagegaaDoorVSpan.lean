/-
  Lists of spans: merging, membership, the one right list of a set of numbers. No program in sight.
-/
import Derived.WalkKit
namespace Go.Proofs.YtjnlppmodagegaaDoor.Span

def valid (x : Int × Int) : Prop := 0 ≤ x.1 ∧ x.1 < x.2
instance (x : Int × Int) : Decidable (valid x) := inferInstanceAs (Decidable (_ ∧ _))
def rightP (l : List (Int × Int)) : Prop := (∀ x, x ∈ l → valid x) ∧ l.Pairwise (fun a b => a.2 < b.1)
def inP (l : List (Int × Int)) (i : Int) : Prop := ∃ x, x ∈ l ∧ x.1 ≤ i ∧ i < x.2

/-- as the code adds a span -/
def addS (acc : List (Int × Int)) (s : Int × Int) : List (Int × Int) :=
  match acc.getLast? with
  | some L => if s.1 ≤ L.2 then acc.dropLast ++ [(L.1, max L.2 s.2)] else acc ++ [s]
  | none => [s]
theorem addS_nil (s : Int × Int) : addS [] s = [s] := rfl
theorem addS_snoc (as : List (Int × Int)) (L s : Int × Int) : addS (as ++ [L]) s = if s.1 ≤ L.2 then as ++ [(L.1, max L.2 s.2)] else as ++ [L] ++ [s] := by
  unfold addS; simp
theorem addS_length (acc : List (Int × Int)) (s : Int × Int) : (addS acc s).length ≤ acc.length + 1 := by
  rcases List.eq_nil_or_concat acc with rfl | ⟨as, L, rfl⟩
  · simp [addS_nil]
  · rw [List.concat_eq_append, addS_snoc]; split <;> simp

theorem inP_nil (i : Int) : ¬ inP [] i := by rintro ⟨x, hx, _⟩; cases hx
theorem inP_append (a b : List (Int × Int)) (i : Int) : inP (a ++ b) i ↔ inP a i ∨ inP b i := by
  unfold inP
  constructor
  · rintro ⟨x, hx, h⟩
    rcases List.mem_append.1 hx with hx | hx
    · exact .inl ⟨x, hx, h⟩
    · exact .inr ⟨x, hx, h⟩
  · rintro (⟨x, hx, h⟩ | ⟨x, hx, h⟩)
    · exact ⟨x, List.mem_append_left _ hx, h⟩
    · exact ⟨x, List.mem_append_right _ hx, h⟩
theorem inP_one (x : Int × Int) (i : Int) : inP [x] i ↔ x.1 ≤ i ∧ i < x.2 := by
  unfold inP; simp
theorem inP_cons (x : Int × Int) (l : List (Int × Int)) (i : Int) : inP (x :: l) i ↔ (x.1 ≤ i ∧ i < x.2) ∨ inP l i := by
  rw [show x :: l = [x] ++ l from rfl, inP_append, inP_one]
theorem inP_perm {a b : List (Int × Int)} (h : a.Perm b) (i : Int) : inP a i ↔ inP b i := by
  unfold inP
  constructor <;> rintro ⟨x, hx, h2⟩
  · exact ⟨x, h.mem_iff.1 hx, h2⟩
  · exact ⟨x, h.mem_iff.2 hx, h2⟩

theorem rightP_snoc (as : List (Int × Int)) (L : Int × Int) : rightP (as ++ [L]) ↔ rightP as ∧ valid L ∧ ∀ x, x ∈ as → x.2 < L.1 := by
  unfold rightP
  rw [List.pairwise_append]
  constructor
  · rintro ⟨h1, h2, _, h3⟩
    exact ⟨⟨fun x hx => h1 x (List.mem_append_left _ hx), h2⟩, h1 L (by simp), fun x hx => h3 x hx L (by simp)⟩
  · rintro ⟨⟨h1, h2⟩, h3, h4⟩
    refine ⟨fun x hx => ?_, h2, by simp, fun x hx y hy => ?_⟩
    · rcases List.mem_append.1 hx with hx | hx
      · exact h1 x hx
      · rw [List.mem_singleton.1 hx]; exact h3
    · rw [List.mem_singleton.1 hy]; exact h4 x hx

/-- one step -/
theorem addS_right (acc : List (Int × Int)) (s : Int × Int) (h : rightP acc) (hs : valid s) (hle : ∀ x, x ∈ acc → x.1 ≤ s.1) :
    rightP (addS acc s) ∧ (∀ i, inP (addS acc s) i ↔ inP acc i ∨ (s.1 ≤ i ∧ i < s.2)) ∧ ∀ x, x ∈ addS acc s → x.1 ≤ s.1 := by
  rcases List.eq_nil_or_concat acc with rfl | ⟨as, L, rfl⟩
  · refine ⟨?_, fun i => ?_, ?_⟩
    · rw [addS_nil, show [s] = [] ++ [s] from rfl, rightP_snoc]
      exact ⟨h, hs, fun x hx => by cases hx⟩
    · rw [addS_nil, inP_one]; simp [inP_nil]
    · intro x hx; rw [addS_nil, List.mem_singleton] at hx; rw [hx]; exact Int.le_refl _
  · rw [List.concat_eq_append] at *
    rw [addS_snoc]
    obtain ⟨h1, h2, h3⟩ := (rightP_snoc as L).1 h
    have hL := hle L (by simp)
    unfold valid at h2 hs
    by_cases hc : s.1 ≤ L.2
    · rw [if_pos hc]
      refine ⟨?_, fun i => ?_, fun x hx => ?_⟩
      · rw [rightP_snoc]
        exact ⟨h1, ⟨h2.1, by simp only; omega⟩, h3⟩
      · rw [inP_append, inP_append, inP_one, inP_one]
        simp only
        constructor
        · rintro (h | h)
          · exact .inl (.inl h)
          · by_cases hi : i < L.2
            · exact .inl (.inr ⟨h.1, hi⟩)
            · exact .inr (by omega)
        · rintro ((h | h) | h)
          · exact .inl h
          · exact .inr (by omega)
          · exact .inr (by omega)
      · rcases List.mem_append.1 hx with hx | hx
        · exact hle x (List.mem_append_left _ hx)
        · rw [List.mem_singleton.1 hx]; exact hL
    · rw [if_neg hc]
      refine ⟨?_, fun i => ?_, fun x hx => ?_⟩
      · rw [rightP_snoc]
        refine ⟨h, hs, fun x hx => ?_⟩
        rcases List.mem_append.1 hx with hx | hx
        · have := h3 x hx; omega
        · rw [List.mem_singleton.1 hx]; omega
      · rw [inP_append, inP_one]
      · rcases List.mem_append.1 hx with hx | hx
        · exact hle x hx
        · rw [List.mem_singleton.1 hx]; exact Int.le_refl _

theorem fold_right (ys acc : List (Int × Int)) (h : rightP acc) (hv : ∀ y, y ∈ ys → valid y) (hs : ys.Pairwise (fun a b => a.1 ≤ b.1)) (hle : ∀ x, x ∈ acc → ∀ y, y ∈ ys → x.1 ≤ y.1) :
    rightP (ys.foldl addS acc) ∧ ∀ i, inP (ys.foldl addS acc) i ↔ inP acc i ∨ inP ys i := by
  induction ys generalizing acc with
  | nil => exact ⟨h, fun i => by simp [inP_nil]⟩
  | cons y l ih =>
    obtain ⟨h1, h2, h3⟩ := addS_right acc y h (hv y List.mem_cons_self) (fun x hx => hle x hx y List.mem_cons_self)
    rw [List.pairwise_cons] at hs
    obtain ⟨k1, k2⟩ := ih (addS acc y) h1 (fun z hz => hv z (List.mem_cons_of_mem _ hz)) hs.2 (fun x hx z hz => Int.le_trans (h3 x hx) (hs.1 z hz))
    refine ⟨k1, fun i => ?_⟩
    rw [List.foldl_cons, k2, h2, inP_cons]
    constructor
    · rintro ((h | h) | h)
      · exact .inl h
      · exact .inr (.inl h)
      · exact .inr (.inr h)
    · rintro (h | h | h)
      · exact .inl (.inl h)
      · exact .inl (.inr h)
      · exact .inr h
theorem merge_right (ys : List (Int × Int)) (hv : ∀ y, y ∈ ys → valid y) (hs : ys.Pairwise (fun a b => a.1 ≤ b.1)) :
    rightP (ys.foldl addS []) ∧ ∀ i, inP (ys.foldl addS []) i ↔ inP ys i := by
  obtain ⟨h1, h2⟩ := fold_right ys [] ⟨by simp, List.Pairwise.nil⟩ hv hs (by simp)
  exact ⟨h1, fun i => by rw [h2]; simp [inP_nil]⟩

/-- one right list of a set -/
theorem right_tail {a : Int × Int} {l : List (Int × Int)} (h : rightP (a :: l)) : valid a ∧ rightP l ∧ ∀ x, x ∈ l → a.2 < x.1 := by
  obtain ⟨h1, h2⟩ := h
  rw [List.pairwise_cons] at h2
  exact ⟨h1 a List.mem_cons_self, ⟨fun x hx => h1 x (List.mem_cons_of_mem _ hx), h2.2⟩, h2.1⟩
theorem right_one : ∀ (l m : List (Int × Int)), rightP l → rightP m → (∀ i, inP l i ↔ inP m i) → l = m
  | [], [], _, _, _ => rfl
  | [], b :: m, _, hm, h => by
    obtain ⟨hv, _⟩ := right_tail hm
    unfold valid at hv
    exact absurd ((h b.1).2 ((inP_cons b m b.1).2 (.inl ⟨Int.le_refl _, hv.2⟩))) (inP_nil _)
  | a :: l, [], hl, _, h => by
    obtain ⟨hv, _⟩ := right_tail hl
    unfold valid at hv
    exact absurd ((h a.1).1 ((inP_cons a l a.1).2 (.inl ⟨Int.le_refl _, hv.2⟩))) (inP_nil _)
  | a :: l, b :: m, hl, hm, h => by
    obtain ⟨va, hl2, ha⟩ := right_tail hl
    obtain ⟨vb, hm2, hb⟩ := right_tail hm
    unfold valid at va vb
    have low : ∀ (x : Int × Int) (k : List (Int × Int)) (i : Int), x.1 < x.2 → (∀ y, y ∈ k → x.2 < y.1) → inP (x :: k) i → x.1 ≤ i := by
      intro x k i hx hk hi
      rcases (inP_cons x k i).1 hi with h | ⟨y, hy, h⟩
      · exact h.1
      · have := hk y hy; omega
    have gap : ∀ (x : Int × Int) (k : List (Int × Int)), (∀ y, y ∈ k → x.2 < y.1) → ¬ inP (x :: k) x.2 := by
      intro x k hk hi
      rcases (inP_cons x k x.2).1 hi with h | ⟨y, hy, h⟩
      · omega
      · have := hk y hy; omega
    have e1 : a.1 = b.1 := by
      have h1 := low b m a.1 vb.2 hb ((h a.1).1 ((inP_cons a l a.1).2 (.inl ⟨Int.le_refl _, va.2⟩)))
      have h2 := low a l b.1 va.2 ha ((h b.1).2 ((inP_cons b m b.1).2 (.inl ⟨Int.le_refl _, vb.2⟩)))
      omega
    have e2 : a.2 = b.2 := by
      rcases Int.lt_trichotomy a.2 b.2 with hlt | he | hgt
      · exact absurd ((h a.2).2 ((inP_cons b m a.2).2 (.inl ⟨by omega, hlt⟩))) (gap a l ha)
      · exact he
      · exact absurd ((h b.2).1 ((inP_cons a l b.2).2 (.inl ⟨by omega, hgt⟩))) (gap b m hb)
    have e : a = b := Prod.ext e1 e2
    subst e
    congr 1
    have tail : ∀ (k : List (Int × Int)) (i : Int), (∀ y, y ∈ k → a.2 < y.1) → (inP k i ↔ inP (a :: k) i ∧ a.2 < i) := by
      intro k i hk
      rw [inP_cons]
      constructor
      · intro hi
        obtain ⟨y, hy, h⟩ := hi
        have := hk y hy
        exact ⟨.inr ⟨y, hy, h⟩, by omega⟩
      · rintro ⟨h | h, hgt⟩
        · omega
        · exact h
    exact right_one l m hl2 hm2 fun i => by rw [tail l i ha, tail m i hb, h]

/-- a place for s in a list, by From -/
def insertS (s : Int × Int) : List (Int × Int) → List (Int × Int)
  | [] => [s]
  | x :: l => if s.1 ≤ x.1 then s :: x :: l else x :: insertS s l
theorem insertS_perm (s : Int × Int) (l : List (Int × Int)) : (insertS s l).Perm (l ++ [s]) := by
  induction l with
  | nil => exact List.Perm.refl _
  | cons x l ih =>
    unfold insertS
    split
    · exact (List.perm_append_comm (l₁ := [s]) (l₂ := x :: l))
    · exact List.Perm.cons x ih
theorem insertS_sorted (s : Int × Int) (l : List (Int × Int)) (h : l.Pairwise (fun a b => a.1 ≤ b.1)) : (insertS s l).Pairwise (fun a b => a.1 ≤ b.1) := by
  induction l with
  | nil => simp [insertS]
  | cons x l ih =>
    rw [List.pairwise_cons] at h
    unfold insertS
    split
    · rename_i hs
      refine List.pairwise_cons.2 ⟨fun y hy => ?_, List.pairwise_cons.2 h⟩
      rcases List.mem_cons.1 hy with rfl | hy
      · exact hs
      · exact Int.le_trans hs (h.1 y hy)
    · rename_i hs
      refine List.pairwise_cons.2 ⟨fun y hy => ?_, ih h.2⟩
      rcases List.mem_append.1 ((insertS_perm s l).mem_iff.1 hy) with hy | hy
      · exact h.1 y hy
      · rw [List.mem_singleton.1 hy]; omega
theorem right_sorted {l : List (Int × Int)} (h : rightP l) : l.Pairwise (fun a b => a.1 ≤ b.1) := by
  obtain ⟨h1, h2⟩ := h
  induction l with
  | nil => exact List.Pairwise.nil
  | cons a l ih =>
    rw [List.pairwise_cons] at h2 ⊢
    refine ⟨fun b hb => ?_, ih (fun x hx => h1 x (List.mem_cons_of_mem _ hx)) h2.2⟩
    have h3 := h2.1 b hb
    have h4 := h1 a List.mem_cons_self
    unfold valid at h4
    omega
/-- what hiding a valid span in a right list is -/
def hideS (l : List (Int × Int)) (s : Int × Int) : List (Int × Int) := (insertS s l).foldl addS []
theorem valid_snoc {l : List (Int × Int)} {s : Int × Int} (h : rightP l) (hs : valid s) : ∀ y, y ∈ l ++ [s] → valid y := fun y hy => by
  rcases List.mem_append.1 hy with hy | hy
  · exact h.1 y hy
  · rw [List.mem_singleton.1 hy]; exact hs
theorem hideS_right (l : List (Int × Int)) (s : Int × Int) (h : rightP l) (hs : valid s) :
    rightP (hideS l s) ∧ ∀ i, inP (hideS l s) i ↔ inP l i ∨ (s.1 ≤ i ∧ i < s.2) := by
  obtain ⟨h1, h2⟩ := merge_right (insertS s l) (fun y hy => valid_snoc h hs y ((insertS_perm s l).mem_iff.1 hy)) (insertS_sorted s l (right_sorted h))
  exact ⟨h1, fun i => by rw [hideS, h2, inP_perm (insertS_perm s l), inP_append, inP_one]⟩
/-- any sorting comes to it -/
theorem hideS_of (l : List (Int × Int)) (s : Int × Int) (h : rightP l) (hs : valid s) (ys : List (Int × Int)) (hp : ys.Perm (l ++ [s])) (ho : ys.Pairwise (fun a b => a.1 ≤ b.1)) : ys.foldl addS [] = hideS l s := by
  obtain ⟨h1, h2⟩ := merge_right ys (fun y hy => valid_snoc h hs y (hp.mem_iff.1 hy)) ho
  obtain ⟨h3, h4⟩ := hideS_right l s h hs
  exact right_one _ _ h1 h3 fun i => by rw [h2, h4, inP_perm hp, inP_append, inP_one]
theorem hideS_comm (l : List (Int × Int)) (s t : Int × Int) (h : rightP l) (hs : valid s) (ht : valid t) : hideS (hideS l s) t = hideS (hideS l t) s := by
  obtain ⟨a1, a2⟩ := hideS_right l s h hs
  obtain ⟨b1, b2⟩ := hideS_right l t h ht
  obtain ⟨c1, c2⟩ := hideS_right _ t a1 ht
  obtain ⟨d1, d2⟩ := hideS_right _ s b1 hs
  exact right_one _ _ c1 d1 fun i => by
    rw [c2, d2, a2, b2]
    constructor
    · rintro ((h | h) | h)
      · exact .inl (.inl h)
      · exact .inr h
      · exact .inl (.inr h)
    · rintro ((h | h) | h)
      · exact .inl (.inl h)
      · exact .inr h
      · exact .inl (.inr h)
theorem hideS_self (l : List (Int × Int)) (s : Int × Int) (h : rightP l) (hs : valid s) : hideS (hideS l s) s = hideS l s := by
  obtain ⟨a1, a2⟩ := hideS_right l s h hs
  obtain ⟨c1, c2⟩ := hideS_right _ s a1 hs
  exact right_one _ _ c1 a1 fun i => by
    rw [c2, a2]
    constructor
    · rintro (h | h)
      · exact h
      · exact .inr h
    · exact .inl

/-- the code's test: neighbours alone -/
def rightB (l : List (Int × Int)) : Nat → Bool
  | 0 => true
  | k + 1 => rightB l k && (decide (0 ≤ (l[k]?.getD (0, 0)).1) && decide ((l[k]?.getD (0, 0)).1 < (l[k]?.getD (0, 0)).2) && !(decide (0 < k) && decide ((l[k - 1]?.getD (0, 0)).2 ≥ (l[k]?.getD (0, 0)).1)))
theorem rightB_take (l : List (Int × Int)) (k : Nat) (hk : k ≤ l.length) : rightB l k = true ↔ rightP (l.take k) := by
  induction k with
  | zero => simp [rightB, rightP]
  | succ k ih =>
    have hlt : k < l.length := hk
    rw [List.take_succ_eq_append_getElem hlt, rightP_snoc, rightB, Bool.and_eq_true, ih (by omega), List.getElem?_eq_getElem hlt, Option.getD_some]
    constructor
    · rintro ⟨h1, h2⟩
      simp only [Bool.and_eq_true, Bool.not_eq_true', decide_eq_true_eq, Bool.and_eq_false_iff, decide_eq_false_iff_not] at h2
      refine ⟨h1, h2.1, fun x hx => ?_⟩
      rcases Nat.eq_zero_or_pos k with h0 | h0
      · subst h0; simp at hx
      · have h3 : (l[k - 1]?.getD (0, 0)).2 < l[k].1 := by
          rcases h2.2 with h | h
          · exact absurd h0 h
          · omega
        have hk1 : k - 1 < l.length := by omega
        rw [List.getElem?_eq_getElem hk1, Option.getD_some] at h3
        have e : l.take k = l.take (k - 1) ++ [l[k - 1]] := by
          have := List.take_succ_eq_append_getElem hk1
          rwa [show k - 1 + 1 = k by omega] at this
        rw [e, rightP_snoc] at h1
        rw [e] at hx
        rcases List.mem_append.1 hx with hx | hx
        · have h4 := h1.2.2 x hx
          have h5 := h1.2.1
          unfold valid at h5
          omega
        · rw [List.mem_singleton.1 hx]; exact h3
    · rintro ⟨h1, h2, h3⟩
      refine ⟨h1, ?_⟩
      simp only [Bool.and_eq_true, Bool.not_eq_true', decide_eq_true_eq, Bool.and_eq_false_iff, decide_eq_false_iff_not]
      refine ⟨h2, ?_⟩
      rcases Nat.eq_zero_or_pos k with h0 | h0
      · exact .inl (by omega)
      · right
        have hk1 : k - 1 < l.length := by omega
        rw [List.getElem?_eq_getElem hk1, Option.getD_some]
        have := h3 l[k - 1] (List.mem_take_iff_getElem.2 ⟨k - 1, by omega, rfl⟩)
        omega
theorem rightB_all (l : List (Int × Int)) : rightB l l.length = true ↔ rightP l := by
  rw [rightB_take l l.length (Nat.le_refl _), List.take_length]

theorem rightB_false (l : List (Int × Int)) (k n : Nat) (h : rightB l k = false) (hk : k ≤ n) : rightB l n = false := by
  induction n with
  | zero => obtain rfl : k = 0 := by omega
            exact h
  | succ n ih =>
    rcases Nat.lt_or_ge n k with hlt | hge
    · obtain rfl : k = n + 1 := by omega
      exact h
    · rw [rightB, ih hge, Bool.false_and]

/-- what the function returns -/
def hideA (l : List (Int × Int)) (s : Int × Int) : List (Int × Int) := if rightB l l.length = true ∧ valid s then hideS l s else l
end Go.Proofs.YtjnlppmodagegaaDoor.Span
