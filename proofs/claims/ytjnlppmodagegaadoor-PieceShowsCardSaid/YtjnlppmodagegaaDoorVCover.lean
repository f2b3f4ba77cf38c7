/-
  piece.cover as the printed function has it: for each number, whether a span contains it. No program in sight but the printed functions.
-/
import Derived.Test.YtjnlppmodagegaaDoorVPPdx7
import Derived.Test.YtjnlppmodagegaaDoorVLines
namespace Go.Proofs.YtjnlppmodagegaaDoor.PPd
open Go Go.RowKit Go.Proofs.YtjnlppmodagegaaDoorW.PrintWords Go.Proofs.YtjnlppmodagegaaDoorW.PrintMore

def has (i : Int) (s : S43) : Bool := decide (s.f0 ≤ i) && decide (i < s.f1)
def inB (l : List S43) (i : Int) : Bool := l.any (has i)

theorem in_go (l : List S43) (i : Int) (hl : l.length ≤ 9223372036854775000) (d : Nat) : ∀ (j : Nat), j + d = l.length → ∀ k, d + 1 ≤ k → missivelaw20_in.l0 k l i (j : Int) = some (inB (l.drop j) i) := by
  induction d with
  | zero =>
    intro j hj k hk
    obtain ⟨m, rfl⟩ : ∃ m, k = m + 1 := ⟨k - 1, by omega⟩
    rw [missivelaw20_in.l0, if_neg (by omega), List.drop_of_length_le (by omega)]
    rfl
  | succ d ih =>
    intro j hj k hk
    obtain ⟨m, rfl⟩ : ∃ m, k = m + 1 := ⟨k - 1, by omega⟩
    have hlt : j < l.length := by omega
    have hr : rd_T43 l (j : Int) = l[j] := by unfold rd_T43; rw [Int.toNat_natCast, List.getD_eq_getElem?_getD, List.getElem?_eq_getElem hlt]; rfl
    have hw : wrap64 ((j : Int) + 1) = ((j + 1 : Nat) : Int) := by rw [wrap64_id _ (by omega)]; omega
    have hn := ih (j + 1) (by omega) m (by omega)
    have hd : l.drop j = l[j] :: l.drop (j + 1) := List.drop_eq_getElem_cons hlt
    rw [missivelaw20_in.l0, if_pos (by omega), if_pos (by omega), hr, hw, hn, hd]
    unfold inB
    rw [List.any_cons]
    unfold has
    by_cases h1 : i ≥ l[j].f0
    · rw [if_pos h1]
      by_cases h2 : i < l[j].f1
      · rw [if_pos h2]; simp [h1, h2]
      · rw [if_neg h2]; simp [h2]
    · rw [if_neg h1]
      have : ¬ l[j].f0 ≤ i := h1
      simp [this]
theorem in_ok (l : List S43) (i : Int) (hl : l.length ≤ 4096) (k : Nat) (hk : 4097 ≤ k) : missivelaw20_in.f k l i = some (inB l i) := by
  rw [missivelaw20_in.f]
  have := in_go l i (by omega) l.length 0 (by omega) k (by omega)
  rw [List.drop_zero] at this
  exact this

/-- sums of the first numbers -/
def psum (x : List Int) (m : Nat) : Int := (x.take m).sum
theorem psum_set (x : List Int) (a m : Nat) (v : Int) (ha : a < x.length) : psum (x.set a v) m = psum x m + (if a < m then v - x[a]?.getD 0 else 0) := by
  unfold psum
  induction x generalizing a m with
  | nil => simp at ha
  | cons y l ih =>
    cases m with
    | zero => simp
    | succ m =>
      cases a with
      | zero => simp; omega
      | succ a =>
        have := ih a m (by simpa using ha)
        simp only [List.set_cons_succ, List.take_succ_cons, List.sum_cons, List.getElem?_cons_succ]
        rw [this]
        by_cases h : a < m
        · rw [if_pos h, if_pos (by omega)]; omega
        · rw [if_neg h, if_neg (by omega)]; omega
theorem psum_succ (x : List Int) (m : Nat) (h : m < x.length) : psum x (m + 1) = psum x m + x[m]?.getD 0 := by
  unfold psum
  rw [List.take_succ_eq_append_getElem h, List.sum_append, List.getElem?_eq_getElem h]
  simp
theorem psum_replicate (n m : Nat) : psum (List.replicate n 0) m = 0 := by
  unfold psum
  rw [List.take_replicate]
  generalize min m n = q
  induction q with
  | zero => rfl
  | succ q ih => rw [List.replicate_succ, List.sum_cons, ih]; rfl

/-- the state of the first loop behind j spans -/
structure Cov (l : List S43) (n j : Nat) (x : List Int) : Prop where
  len : x.length = n + 1
  bnd : ∀ t : Nat, -(j : Int) ≤ x[t]?.getD 0 ∧ x[t]?.getD 0 ≤ j
  sum : ∀ i, i < n → psum x (i + 1) = ((l.take j).countP (has (i : Int)) : Int)

theorem Cov.start (l : List S43) (n : Nat) : Cov l n 0 (List.replicate (n + 1) 0) where
  len := by simp
  bnd (t) := by
    rw [List.getElem?_replicate]
    split <;> simp
  sum i _ := by rw [psum_replicate]; simp
theorem Cov.skip {l : List S43} {n j : Nat} {x : List Int} (h : Cov l n j x) (hj : j < l.length) (hno : ∀ i : Nat, i < n → has (i : Int) l[j] = false) : Cov l n (j + 1) x where
  len := h.len
  bnd (t) := by have := h.bnd t; omega
  sum i hi := by
    rw [h.sum i hi, List.take_succ_eq_append_getElem hj, List.countP_append]
    simp [hno i hi]
theorem Cov.step {l : List S43} {n j a b : Nat} {x : List Int} (h : Cov l n j x) (hj : j < l.length) (hab : a < b) (hb : b ≤ n) (hc : ∀ i : Nat, i < n → has (i : Int) l[j] = (decide (a ≤ i) && decide (i < b))) :
    Cov l n (j + 1) ((x.set a (x[a]?.getD 0 + 1)).set b (x[b]?.getD 0 - 1)) where
  len := by simp [h.len]
  bnd (t) := by
    have ht := h.bnd t
    have h1 := h.bnd a
    have h2 := h.bnd b
    have hl := h.len
    by_cases hbt : b = t
    · subst hbt
      rw [List.getElem?_set_self (by simp; omega)]
      simp only [Option.getD_some]; omega
    · rw [List.getElem?_set_ne hbt]
      by_cases hat : a = t
      · subst hat
        rw [List.getElem?_set_self (by omega)]
        simp only [Option.getD_some]; omega
      · rw [List.getElem?_set_ne hat]; omega
  sum i hi := by
    have hl := h.len
    have h0 := h.sum i hi
    have hbx : (x.set a (x[a]?.getD 0 + 1))[b]?.getD 0 = x[b]?.getD 0 := by rw [List.getElem?_set_ne (by omega)]
    rw [psum_set _ b _ _ (by simp; omega), hbx, psum_set _ a _ _ (by omega), h0, List.take_succ_eq_append_getElem hj, List.countP_append]
    simp only [List.countP_cons, List.countP_nil, hc i hi, Nat.zero_add]
    by_cases h1 : a ≤ i
    · by_cases h2 : i < b
      · rw [if_pos (by omega : a < i + 1), if_neg (by omega : ¬ b < i + 1)]; simp [h1, h2]; omega
      · rw [if_pos (by omega : a < i + 1), if_pos (by omega : b < i + 1)]; simp [h2]; omega
    · rw [if_neg (by omega : ¬ a < i + 1), if_neg (by omega : ¬ b < i + 1)]; simp [h1]

theorem mx_zero (x : Int) : 0 ≤ mx x 0 := by unfold mx; split <;> omega
/-- one span of the list, as the code reads it -/
theorem cover_step (l : List S43) (n j : Nat) (x : List Int) (hn : n ≤ 4096) (hj : j < l.length) (hl : l.length ≤ 4096) (h : Cov l n j x) :
    ∃ y, Cov l n (j + 1) y ∧ ∀ m, piece_cover.l0 (m + 1) (n : Int) x l (l.length : Int) (j : Int) = piece_cover.l0 m (n : Int) y l (l.length : Int) ((j + 1 : Nat) : Int) := by
  have hr : rd_T43 l (j : Int) = l[j] := by unfold rd_T43; rw [Int.toNat_natCast, List.getD_eq_getElem?_getD, List.getElem?_eq_getElem hj]; rfl
  have hw : wrap64 ((j : Int) + 1) = ((j + 1 : Nat) : Int) := by rw [wrap64_id _ (by omega)]; omega
  have hlen := h.len
  by_cases hc : mx l[j].f0 0 < mn l[j].f1 (n : Int)
  · obtain ⟨a, ha⟩ : ∃ a : Nat, mx l[j].f0 0 = a := ⟨(mx l[j].f0 0).toNat, by have := mx_zero l[j].f0; omega⟩
    obtain ⟨b, hb⟩ : ∃ b : Nat, mn l[j].f1 (n : Int) = b := ⟨(mn l[j].f1 (n : Int)).toNat, by omega⟩
    have hab : a < b := by omega
    have hbn : b ≤ n := by have : mn l[j].f1 (n : Int) ≤ n := by unfold mn; split <;> omega
                           omega
    have hcov : ∀ i : Nat, i < n → has (i : Int) l[j] = (decide (a ≤ i) && decide (i < b)) := by
      intro i hi
      unfold has
      have e1 : (l[j].f0 ≤ (i : Int)) ↔ a ≤ i := by
        have : mx l[j].f0 0 = if l[j].f0 < 0 then 0 else l[j].f0 := rfl
        rw [this] at ha
        split at ha <;> omega
      have e2 : ((i : Int) < l[j].f1) ↔ i < b := by
        have : mn l[j].f1 (n : Int) = if (n : Int) < l[j].f1 then (n : Int) else l[j].f1 := rfl
        rw [this] at hb
        split at hb <;> omega
      rw [decide_eq_decide.2 e1, decide_eq_decide.2 e2]
    have b1 := h.bnd a
    have b2 := h.bnd b
    have ra : rd x (a : Int) = x[a]?.getD 0 := by unfold rd; rw [Int.toNat_natCast, List.getD_eq_getElem?_getD]
    refine ⟨_, h.step hj hab hbn hcov, fun m => ?_⟩
    have g1 : (j : Int) < (l.length : Int) := by omega
    have g2 : (0 : Int) ≤ (j : Int) := by omega
    have g4 : (a : Int) < (b : Int) := by omega
    have g5 : (0 : Int) ≤ (a : Int) := by omega
    have g6 : (a : Int) < (x.length : Int) := by omega
    have g7 : (0 : Int) ≤ (b : Int) := by omega
    have g8 : (b : Int) < (x.length : Int) := by omega
    have w1 : wrap64 (x[a]?.getD 0 + 1) = x[a]?.getD 0 + 1 := wrap64_id _ (by omega)
    have w2 : wrap64 (x[b]?.getD 0 - 1) = x[b]?.getD 0 - 1 := wrap64_id _ (by omega)
    have rb : rd (x.set a (x[a]?.getD 0 + 1)) (b : Int) = x[b]?.getD 0 := by unfold rd; rw [Int.toNat_natCast, List.getD_eq_getElem?_getD, List.getElem?_set_ne (by omega)]
    rw [piece_cover.l0, if_pos g1, if_pos g2, if_pos g1, hr, ha, hb, if_pos g4, if_pos g5, if_pos g6, ra, w1, Option.bind_some, if_pos g7, if_pos g8, Int.toNat_natCast, Int.toNat_natCast, rb, w2, hw]
  · have hno : ∀ i : Nat, i < n → has (i : Int) l[j] = false := by
      intro i hi
      unfold has
      have e1 : mx l[j].f0 0 = if l[j].f0 < 0 then 0 else l[j].f0 := rfl
      have e2 : mn l[j].f1 (n : Int) = if (n : Int) < l[j].f1 then (n : Int) else l[j].f1 := rfl
      rw [e1, e2] at hc
      by_cases h1 : l[j].f0 ≤ (i : Int)
      · have : ¬ (i : Int) < l[j].f1 := by split at hc <;> split at hc <;> omega
        simp [this]
      · simp [h1]
    refine ⟨x, h.skip hj hno, fun m => ?_⟩
    have g1 : (j : Int) < (l.length : Int) := by omega
    have g2 : (0 : Int) ≤ (j : Int) := by omega
    rw [piece_cover.l0, if_pos g1, if_pos g2, if_pos g1, hr, if_neg hc, hw]

/-- the second loop -/
theorem cover_two (l : List S43) (n : Nat) (x : List Int) (hn : n ≤ 4096) (hl : l.length ≤ 4096) (h : Cov l n l.length x) (d : Nat) : ∀ (j : Nat) (out : List Bool), j + d = n → out.length = n →
    ∀ k, d + 1 ≤ k → piece_cover.l1 k x out (psum x j) (n : Int) (j : Int) = some (out.take j ++ (List.range' j d).map fun i : Nat => inB l (i : Int)) := by
  have hlen := h.len
  have hcnt : ∀ i : Nat, i < n → decide (psum x (i + 1) > 0) = inB l (i : Int) ∧ 0 ≤ psum x (i + 1) ∧ psum x (i + 1) ≤ 4096 := by
    intro i hi
    have hs := h.sum i hi
    rw [List.take_length] at hs
    have hle : l.countP (has (i : Int)) ≤ l.length := List.countP_le_length
    refine ⟨?_, by omega, by omega⟩
    rw [hs]
    unfold inB
    rcases Nat.eq_zero_or_pos (l.countP (has (i : Int))) with h0 | h0
    · have h1 : l.any (has (i : Int)) = false := by
        rw [List.any_eq_false]
        intro y hy hy2
        exact absurd (List.countP_eq_zero.1 h0 y hy) (by simp [hy2])
      rw [h0, h1]; rfl
    · have h1 : l.any (has (i : Int)) = true := by
        rw [List.any_eq_true]
        obtain ⟨y, hy, hy2⟩ := List.countP_pos_iff.1 h0
        exact ⟨y, hy, hy2⟩
      rw [h1]
      exact decide_eq_true (by omega)
  induction d with
  | zero =>
    intro j out hj ho k hk
    obtain ⟨m, rfl⟩ : ∃ m, k = m + 1 := ⟨k - 1, by omega⟩
    rw [piece_cover.l1, if_neg (by omega), List.take_of_length_le (by omega)]
    simp
  | succ d ih =>
    intro j out hj ho k hk
    obtain ⟨m, rfl⟩ : ∃ m, k = m + 1 := ⟨k - 1, by omega⟩
    have hjn : j < n := by omega
    have g1 : (j : Int) < (n : Int) := by omega
    have g2 : (0 : Int) ≤ (j : Int) := by omega
    have g3 : (j : Int) < (x.length : Int) := by omega
    have g4 : (j : Int) < (out.length : Int) := by omega
    have g5 : j + 1 + d = n := by omega
    have g6 : d + 1 ≤ m := by omega
    have g7 : j < (out.set j (inB l (j : Int))).length := by rw [List.length_set]; omega
    have g8 : j < x.length := by omega
    have hw : wrap64 ((j : Int) + 1) = ((j + 1 : Nat) : Int) := by rw [wrap64_id _ (by omega)]; omega
    obtain ⟨c1, c2, c3⟩ := hcnt j hjn
    have hr : rd x (j : Int) = x[j]?.getD 0 := by unfold rd; rw [Int.toNat_natCast, List.getD_eq_getElem?_getD]
    have hp := psum_succ x j g8
    have hwid := wrap64_id (psum x (j + 1)) (by omega)
    have hv : wrap64 (psum x j + rd x (j : Int)) = psum x (j + 1) := by rw [hr, ← hp, hwid]
    have hstep : piece_cover.l1 (m + 1) x out (psum x j) (n : Int) (j : Int) = piece_cover.l1 m x (out.set j (inB l (j : Int))) (psum x (j + 1)) (n : Int) ((j + 1 : Nat) : Int) := by
      rw [piece_cover.l1, if_pos g1, if_pos g2, if_pos g3, if_pos g4, hv, hw, c1, Int.toNat_natCast]
    have hol : (out.set j (inB l (j : Int))).length = n := by rw [List.length_set]; exact ho
    rw [hstep, ih (j + 1) _ g5 hol m g6, List.range'_succ, List.map_cons]
    have ht : (out.set j (inB l (j : Int))).take (j + 1) = out.take j ++ [inB l (j : Int)] := by
      rw [List.take_succ_eq_append_getElem g7, List.take_set_of_le (Nat.le_refl _), List.getElem_set_self]
    rw [ht, List.append_assoc]
    rfl

theorem cover_one (l : List S43) (n : Nat) (hn : n ≤ 4096) (hl : l.length ≤ 4096) (d : Nat) : ∀ (j : Nat) (x : List Int), j + d = l.length → Cov l n j x →
    ∀ k, d + n + 2 ≤ k → piece_cover.l0 k (n : Int) x l (l.length : Int) (j : Int) = some ((List.range' 0 n).map fun i : Nat => inB l (i : Int)) := by
  induction d with
  | zero =>
    intro j x hj h k hk
    obtain ⟨m, rfl⟩ : ∃ m, k = m + 1 := ⟨k - 1, by omega⟩
    have hj2 : j = l.length := by omega
    subst hj2
    have g1 : ¬ (l.length : Int) < (l.length : Int) := by omega
    have g2 : (0 : Int) ≤ (n : Int) := by omega
    have g3 : (n : Int).toNat ≤ 281474976710656 := by omega
    have hrl : ((List.replicate (n : Int).toNat false).length : Int) = (n : Int) := by rw [List.length_replicate, Int.toNat_natCast]
    have h2 := cover_two l n x hn hl h n 0 (List.replicate (n : Int).toNat false) (by omega) (by rw [List.length_replicate, Int.toNat_natCast]) m (by omega)
    have hp0 : psum x 0 = 0 := rfl
    rw [hp0] at h2
    rw [piece_cover.l0, if_neg g1, if_pos g2, if_pos g3, Option.bind_some, hrl]
    exact h2
  | succ d ih =>
    intro j x hj h k hk
    obtain ⟨m, rfl⟩ : ∃ m, k = m + 1 := ⟨k - 1, by omega⟩
    obtain ⟨y, hy, hs⟩ := cover_step l n j x hn (by omega) hl h
    rw [hs m]
    exact ih (j + 1) y (by omega) hy m (by omega)
/-- piece.cover: for each of n numbers, whether a span contains it -/
theorem cover_ok (l : List S43) (n : Nat) (hn : n ≤ 4096) (hl : l.length ≤ 4096) (k : Nat) (hk : 8200 ≤ k) :
    piece_cover.f k l (n : Int) = some ((List.range' 0 n).map fun i : Nat => inB l (i : Int)) := by
  have hw : wrap64 ((n : Int) + 1) = ((n + 1 : Nat) : Int) := by rw [wrap64_id _ (by omega)]; omega
  have g1 : (0 : Int) ≤ ((n + 1 : Nat) : Int) := by omega
  have g2 : ((n + 1 : Nat) : Int).toNat ≤ 35184372088832 := by omega
  have h := cover_one l n hn hl l.length 0 _ (by omega) (Cov.start l n) k (by omega)
  rw [piece_cover.f, hw, if_pos g1, if_pos g2, Int.toNat_natCast]
  exact h
end Go.Proofs.YtjnlppmodagegaaDoor.PPd
