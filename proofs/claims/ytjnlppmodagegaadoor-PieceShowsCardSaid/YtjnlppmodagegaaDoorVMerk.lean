/-
  Merkle trees over any function of digests of 32 bytes: two lists of leaves with one root are the same, or two different strings that were hashed have one digest. Plain Lean, no program.
-/
import Derived.Lib.ItoaMem
import Derived.Lib.BitFns
namespace Go.Proofs.YtjnlppmodagegaaDoor.Merk
open Go

theorem ba_ext {a b : ByteArray} (h : a.data.toList = b.data.toList) : a = b := by
  obtain ⟨⟨x⟩⟩ := a
  obtain ⟨⟨y⟩⟩ := b
  simp only at h
  rw [h]
theorem ba_len (a : ByteArray) : a.data.toList.length = a.size := rfl
theorem ba_app (a b : ByteArray) : (a ++ b).data.toList = a.data.toList ++ b.data.toList := by rw [ByteArray.data_append, Array.toList_append]
theorem app_inj {a b c d : ByteArray} (h : a ++ b = c ++ d) (hs : a.size = c.size) : a = c ∧ b = d := by
  have h2 : a.data.toList ++ b.data.toList = c.data.toList ++ d.data.toList := by rw [← ba_app, ← ba_app, h]
  obtain ⟨h3, h4⟩ := List.append_inj h2 (by rw [ba_len, ba_len, hs])
  exact ⟨ba_ext h3, ba_ext h4⟩

/-! ### the split -/
def half (n : Nat) : Nat := 2 ^ (Lib.bitLen (n - 1) - 1)
theorem half_bounds (n : Nat) (h : 2 ≤ n) (hn : n < 18446744073709551616) : 1 ≤ half n ∧ half n < n ∧ n ≤ 2 * half n := by
  obtain ⟨a, b, c⟩ := Lib.bitLenAux_bounds 64 (n - 1) (by omega) (by omega)
  unfold half Lib.bitLen
  generalize Lib.bitLenAux 64 (n - 1) = L at a b c ⊢
  obtain ⟨k, rfl⟩ : ∃ k, L = k + 1 := ⟨L - 1, by omega⟩
  rw [Nat.add_sub_cancel] at b ⊢
  have hp : 0 < 2 ^ k := Nat.two_pow_pos k
  rw [Nat.pow_succ] at c
  omega
theorem half_of (n j : Nat) (h : 2 ≤ n) (hn : n < 18446744073709551616) (h1 : 2 ^ j < n) (h2 : n ≤ 2 * 2 ^ j) : half n = 2 ^ j := by
  obtain ⟨a, b, c⟩ := Lib.bitLenAux_bounds 64 (n - 1) (by omega) (by omega)
  unfold half Lib.bitLen
  generalize Lib.bitLenAux 64 (n - 1) = L at a b c ⊢
  obtain ⟨k, rfl⟩ : ∃ k, L = k + 1 := ⟨L - 1, by omega⟩
  rw [Nat.add_sub_cancel] at b ⊢
  have e : k = j := by
    rcases Nat.lt_trichotomy k j with hk | hk | hk
    · have := Nat.pow_le_pow_right (n := 2) (by omega) (show k + 1 ≤ j from hk)
      omega
    · exact hk
    · have := Nat.pow_le_pow_right (n := 2) (by omega) (show j + 1 ≤ k from hk)
      rw [Nat.pow_succ] at this
      omega
  rw [e]

/-! ### the tree -/
section
variable (H : ByteArray → ByteArray)
def node (a b : ByteArray) : ByteArray := ((⟨#[1]⟩ : ByteArray) ++ a) ++ b
def rootN : Nat → List ByteArray → ByteArray
  | 0, _ => ByteArray.empty
  | k + 1, l => if l.length = 0 then H ByteArray.empty else if l.length = 1 then l.headD ByteArray.empty else H (node (rootN k (l.take (half l.length))) (rootN k (l.drop (half l.length))))
def innerN : Nat → List ByteArray → List ByteArray
  | 0, _ => []
  | k + 1, l => if l.length < 2 then [] else (node (rootN H k (l.take (half l.length))) (rootN H k (l.drop (half l.length))) :: innerN k (l.take (half l.length))) ++ innerN k (l.drop (half l.length))
def root (l : List ByteArray) : ByteArray := rootN H (l.length + 1) l
def inner (l : List ByteArray) : List ByteArray := innerN H (l.length + 1) l
variable {H}
theorem halves (l : List ByteArray) (h : 2 ≤ l.length) (hn : l.length < 18446744073709551616) : 1 ≤ (l.take (half l.length)).length ∧ (l.take (half l.length)).length < l.length ∧ 1 ≤ (l.drop (half l.length)).length ∧ (l.drop (half l.length)).length < l.length ∧ (l.take (half l.length)).length = half l.length ∧ (l.drop (half l.length)).length = l.length - half l.length := by
  obtain ⟨a, b, _⟩ := half_bounds l.length h hn
  rw [List.length_take, List.length_drop]
  omega
theorem rootN_enough : ∀ (n : Nat) (l : List ByteArray), l.length ≤ n → l.length < 18446744073709551616 → ∀ k, l.length + 1 ≤ k → rootN H k l = rootN H (l.length + 1) l := by
  intro n
  induction n with
  | zero =>
    intro l hl _ k hk
    have hl0 : l.length = 0 := by omega
    obtain ⟨k, rfl⟩ : ∃ m, k = m + 1 := ⟨k - 1, by omega⟩
    rw [rootN, rootN, if_pos hl0, if_pos hl0]
  | succ n ih =>
    intro l hl hb k hk
    obtain ⟨k, rfl⟩ : ∃ m, k = m + 1 := ⟨k - 1, by omega⟩
    rw [rootN, rootN]
    by_cases h0 : l.length = 0
    · rw [if_pos h0, if_pos h0]
    by_cases h1 : l.length = 1
    · rw [if_neg h0, if_neg h0, if_pos h1, if_pos h1]
    obtain ⟨p1, p2, q1, q2, _, _⟩ := halves l (by omega) hb
    rw [if_neg h0, if_neg h0, if_neg h1, if_neg h1]
    rw [ih _ (by omega) (by omega) k (by omega), ih _ (by omega) (by omega) l.length (by omega), ih (l.drop _) (by omega) (by omega) k (by omega), ih (l.drop _) (by omega) (by omega) l.length (by omega)]
theorem root_of (l : List ByteArray) (hb : l.length < 18446744073709551616) (k : Nat) (hk : l.length + 1 ≤ k) : rootN H k l = root H l := rootN_enough l.length l (Nat.le_refl _) hb k hk
theorem root_nil : root H [] = H ByteArray.empty := rfl
theorem root_one (x : ByteArray) : root H [x] = x := rfl
theorem root_split (l : List ByteArray) (h : 2 ≤ l.length) (hb : l.length < 18446744073709551616) : root H l = H (node (root H (l.take (half l.length))) (root H (l.drop (half l.length)))) := by
  obtain ⟨p1, p2, q1, q2, _, _⟩ := halves l h hb
  conv => lhs; unfold root
  rw [rootN, if_neg (by omega), if_neg (by omega), root_of _ (by omega) _ (by omega), root_of _ (by omega) _ (by omega)]
theorem innerN_enough : ∀ (n : Nat) (l : List ByteArray), l.length ≤ n → l.length < 18446744073709551616 → ∀ k, l.length + 1 ≤ k → innerN H k l = innerN H (l.length + 1) l := by
  intro n
  induction n with
  | zero =>
    intro l hl _ k hk
    obtain ⟨k, rfl⟩ : ∃ m, k = m + 1 := ⟨k - 1, by omega⟩
    rw [innerN, innerN, if_pos (by omega), if_pos (by omega)]
  | succ n ih =>
    intro l hl hb k hk
    obtain ⟨k, rfl⟩ : ∃ m, k = m + 1 := ⟨k - 1, by omega⟩
    rw [innerN, innerN]
    by_cases h0 : l.length < 2
    · rw [if_pos h0, if_pos h0]
    obtain ⟨p1, p2, q1, q2, _, _⟩ := halves l (by omega) hb
    rw [if_neg h0, if_neg h0]
    rw [ih _ (by omega) (by omega) k (by omega), ih _ (by omega) (by omega) l.length (by omega), ih (l.drop _) (by omega) (by omega) k (by omega), ih (l.drop _) (by omega) (by omega) l.length (by omega),
      root_of _ (by omega) _ (by omega), root_of _ (by omega) _ (by omega), root_of _ (by omega) _ (by omega), root_of _ (by omega) _ (by omega)]
theorem inner_of (l : List ByteArray) (hb : l.length < 18446744073709551616) (k : Nat) (hk : l.length + 1 ≤ k) : innerN H k l = inner H l := innerN_enough l.length l (Nat.le_refl _) hb k hk
theorem inner_small (l : List ByteArray) (h : l.length < 2) : inner H l = [] := by unfold inner; rw [innerN, if_pos h]
theorem inner_split (l : List ByteArray) (h : 2 ≤ l.length) (hb : l.length < 18446744073709551616) :
    inner H l = (node (root H (l.take (half l.length))) (root H (l.drop (half l.length))) :: inner H (l.take (half l.length))) ++ inner H (l.drop (half l.length)) := by
  obtain ⟨p1, p2, q1, q2, _, _⟩ := halves l h hb
  conv => lhs; unfold inner
  rw [innerN, if_neg (by omega), root_of _ (by omega) _ (by omega), root_of _ (by omega) _ (by omega), inner_of _ (by omega) _ (by omega), inner_of _ (by omega) _ (by omega)]
theorem root_size (hH : ∀ x, (H x).size = 32) (l : List ByteArray) (hs : ∀ x, x ∈ l → x.size = 32) (hb : l.length < 18446744073709551616) : (root H l).size = 32 := by
  match l, hs, hb with
  | [], _, _ => exact hH _
  | [x], hs, _ => exact hs x (by simp)
  | x :: y :: l, _, hb => rw [root_split _ (by simp) hb]; exact hH _
/-- two different strings, one of each list, have one digest -/
def Clash (H : ByteArray → ByteArray) (X Y : List ByteArray) : Prop := ∃ x, x ∈ X ∧ ∃ y, y ∈ Y ∧ H x = H y ∧ x ≠ y
theorem Clash.mono {X Y X' Y' : List ByteArray} (h : Clash H X Y) (hx : ∀ z, z ∈ X → z ∈ X') (hy : ∀ z, z ∈ Y → z ∈ Y') : Clash H X' Y' := by
  obtain ⟨x, h1, y, h2, h3⟩ := h
  exact ⟨x, hx x h1, y, hy y h2, h3⟩
theorem roots (hH : ∀ x, (H x).size = 32) : ∀ (n : Nat) (a b : List ByteArray), a.length ≤ n → a.length = b.length → a.length < 18446744073709551616 → (∀ x, x ∈ a → x.size = 32) → (∀ x, x ∈ b → x.size = 32) → root H a = root H b →
    a = b ∨ Clash H (inner H a) (inner H b) := by
  intro n
  induction n with
  | zero =>
    intro a b h1 h2 _ _ _ _
    match a, b, h1, h2 with
    | [], [], _, _ => exact Or.inl rfl
  | succ n ih =>
    intro a b h1 h2 hb ha32 hb32 hr
    by_cases c2 : a.length < 2
    · match a, b, c2, h2, hr with
      | [], [], _, _, _ => exact Or.inl rfl
      | [x], [y], _, _, hr => exact Or.inl (by rw [root_one, root_one] at hr; rw [hr])
    · obtain ⟨p1, p2, q1, q2, _, _⟩ := halves a (by omega) hb
      have hbb : b.length < 18446744073709551616 := by omega
      obtain ⟨p3, p4, q3, q4, _, _⟩ := halves b (by omega) hbb
      have eh : half a.length = half b.length := by rw [h2]
      have ta : ∀ x, x ∈ a.take (half a.length) → x.size = 32 := fun x hx => ha32 x (List.mem_of_mem_take hx)
      have da : ∀ x, x ∈ a.drop (half a.length) → x.size = 32 := fun x hx => ha32 x (List.mem_of_mem_drop hx)
      have tb : ∀ x, x ∈ b.take (half b.length) → x.size = 32 := fun x hx => hb32 x (List.mem_of_mem_take hx)
      have db : ∀ x, x ∈ b.drop (half b.length) → x.size = 32 := fun x hx => hb32 x (List.mem_of_mem_drop hx)
      rw [root_split a (by omega) hb, root_split b (by omega) hbb] at hr
      rw [inner_split a (by omega) hb, inner_split b (by omega) hbb]
      by_cases e : node (root H (a.take (half a.length))) (root H (a.drop (half a.length))) = node (root H (b.take (half b.length))) (root H (b.drop (half b.length)))
      · obtain ⟨e1, e2⟩ := app_inj e (by rw [ByteArray.size_append, ByteArray.size_append, root_size hH _ ta (by omega), root_size hH _ tb (by omega)])
        obtain ⟨_, e3⟩ := app_inj e1 rfl
        rcases ih _ _ (by omega) (by rw [List.length_take, List.length_take, h2]) (by omega) ta tb e3 with h | h
        · rcases ih _ _ (by omega) (by rw [List.length_drop, List.length_drop, h2]) (by omega) da db e2 with h' | h'
          · refine Or.inl ?_
            rw [← List.take_append_drop (half a.length) a, h, h', List.take_append_drop]
          · exact Or.inr (h'.mono (fun z hz => List.mem_append_right _ hz) (fun z hz => List.mem_append_right _ hz))
        · exact Or.inr (h.mono (fun z hz => List.mem_append_left _ (List.mem_cons_of_mem _ hz)) (fun z hz => List.mem_append_left _ (List.mem_cons_of_mem _ hz)))
      · exact Or.inr ⟨_, List.mem_append_left _ List.mem_cons_self, _, List.mem_append_left _ List.mem_cons_self, hr, e⟩
end

/-! ### numbers with a mark behind them -/
theorem dec_digit (u : Nat) : ∀ c, c ∈ Lib.decDigits u → 48 ≤ c.toNat ∧ c.toNat ≤ 57 := by
  induction u using Nat.strongRecOn with
  | _ u ih =>
    intro c hc
    rw [Lib.decDigits] at hc
    by_cases h : u < 10
    · rw [dif_pos h, List.mem_singleton] at hc
      subst hc
      have : (UInt8.ofNat (48 + u)).toNat = 48 + u := by rw [UInt8.toNat_ofNat']; omega
      omega
    · rw [dif_neg h, List.mem_append, List.mem_singleton] at hc
      rcases hc with hc | hc
      · exact ih (u / 10) (by omega) c hc
      · subst hc
        have : (UInt8.ofNat (48 + u % 10)).toNat = 48 + u % 10 := by rw [UInt8.toNat_ofNat']; omega
        omega
def val (l : List UInt8) : Nat := l.foldl (fun n c => 10 * n + (c.toNat - 48)) 0
theorem val_dec (u : Nat) : val (Lib.decDigits u) = u := by
  induction u using Nat.strongRecOn with
  | _ u ih =>
    rw [Lib.decDigits]
    by_cases h : u < 10
    · rw [dif_pos h]
      have : (UInt8.ofNat (48 + u)).toNat = 48 + u := by rw [UInt8.toNat_ofNat']; omega
      show 10 * 0 + ((UInt8.ofNat (48 + u)).toNat - 48) = u
      omega
    · rw [dif_neg h]
      have h1 := ih (u / 10) (by omega)
      have : (UInt8.ofNat (48 + u % 10)).toNat = 48 + u % 10 := by rw [UInt8.toNat_ofNat']; omega
      unfold val at h1 ⊢
      rw [List.foldl_append, h1]
      show 10 * (u / 10) + ((UInt8.ofNat (48 + u % 10)).toNat - 48) = u
      omega
theorem span_mark (m : UInt8) : ∀ (a b x y : List UInt8), (∀ c, c ∈ a → c ≠ m) → (∀ c, c ∈ b → c ≠ m) → a ++ m :: x = b ++ m :: y → a = b ∧ x = y
  | [], [], _, _, _, _, h => by simp at h; exact ⟨rfl, h⟩
  | [], c :: b, _, _, _, hb, h => by simp at h; exact absurd h.1.symm (hb c (by simp))
  | c :: a, [], _, _, ha, _, h => by simp at h; exact absurd h.1 (ha c (by simp))
  | c :: a, d :: b, x, y, ha, hb, h => by
    simp only [List.cons_append, List.cons.injEq] at h
    obtain ⟨h1, h2⟩ := h
    obtain ⟨h3, h4⟩ := span_mark m a b x y (fun z hz => ha z (by simp [hz])) (fun z hz => hb z (by simp [hz])) h2
    exact ⟨by rw [h1, h3], h4⟩
/-- a length with ';' behind it, as wire.Num writes it -/
def num (n : Nat) : ByteArray := (⟨(Lib.itoa (n : Int)).toArray⟩ : ByteArray) ++ (⟨#[59]⟩ : ByteArray)
theorem num_inj {n m : Nat} {a b : ByteArray} (h : num n ++ a = num m ++ b) : n = m ∧ a = b := by
  have h2 : (num n ++ a).data.toList = (num m ++ b).data.toList := by rw [h]
  unfold num at h2
  rw [ba_app, ba_app, ba_app, ba_app, Lib.itoa_nonneg, Lib.itoa_nonneg] at h2
  have h3 : Lib.decDigits n ++ (59 : UInt8) :: a.data.toList = Lib.decDigits m ++ (59 : UInt8) :: b.data.toList := by
    have := h2
    simp only [List.append_assoc] at this
    exact this
  have ne : ∀ u, ∀ c, c ∈ Lib.decDigits u → c ≠ 59 := fun u c hc e => by
    have := dec_digit u c hc
    rw [e] at this
    have h59 : (59 : UInt8).toNat = 59 := rfl
    omega
  obtain ⟨h4, h5⟩ := span_mark 59 _ _ _ _ (ne n) (ne m) h3
  refine ⟨?_, ba_ext h5⟩
  rw [← val_dec n, ← val_dec m, h4]
end Go.Proofs.YtjnlppmodagegaaDoor.Merk
