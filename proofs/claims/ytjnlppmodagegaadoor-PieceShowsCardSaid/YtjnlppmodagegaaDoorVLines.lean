/-
  text.Lines as the printed function has it: it is defined, and its lines are no longer than the text. No program in sight but the printed functions.
-/
import Derived.Test.YtjnlppmodagegaaDoorVPPdx3
import Derived.Lib.IndexLaws
namespace Go.Proofs.YtjnlppmodagegaaDoor.PPd
open Go Go.RowKit Go.Proofs.YtjnlppmodagegaaDoorW.PrintWords

theorem wrap64_id (n : Int) (h : -9223372036854775808 ≤ n ∧ n ≤ 9223372036854775807) : wrap64 n = n := by unfold wrap64; omega
theorem toList_nil_iff (x : ByteArray) : x.toList = ([] : List UInt8) ↔ x.size = 0 := by
  rw [ByteArray.toList_eq]
  have h : x.size = x.data.toList.length := (Array.length_toList).symm
  rw [h]
  exact List.length_eq_zero_iff.symm
theorem extract_size (x : ByteArray) (i j : Nat) : (x.extract i j).size = min j x.size - i := ByteArray.size_extract

/-- the sizes of lines, together -/
def sizes (l : List ByteArray) : Nat := (l.map ByteArray.size).sum
theorem sizes_cons (x : ByteArray) (l : List ByteArray) : sizes (x :: l) = x.size + sizes l := by simp [sizes]
theorem sizes_mem {x : ByteArray} {l : List ByteArray} (h : x ∈ l) : x.size ≤ sizes l := by
  induction l with
  | nil => cases h
  | cons y l ih =>
    rw [sizes_cons]
    rcases List.mem_cons.1 h with rfl | h
    · omega
    · have := ih h; omega

theorem cut_ok (x : ByteArray) (hx : x.size ≤ 9223372036854775000) : ∃ a b f, strings_Cut.f x (⟨#[10]⟩ : ByteArray) = some (a, b, f) ∧ a.size + b.size ≤ x.size ∧ (0 < x.size → b.size < x.size) := by
  have h1 : (⟨#[10]⟩ : ByteArray).size = 1 := rfl
  unfold strings_Cut.f stringslite_Cut.f stringslite_Index.f
  rw [if_pos h1]
  have h2 : ((⟨#[10]⟩ : ByteArray).data.toList.headD 0) = 10 := rfl
  rw [h2]
  obtain ⟨i, hi⟩ : ∃ i, Lib.indexByte x.data.toList 10 = i := ⟨_, rfl⟩
  have hge := Lib.indexByte_ge x.data.toList 10
  rw [hi] at hge ⊢
  have hsz : x.size = x.data.toList.length := (Array.length_toList).symm
  simp only [Option.bind_some]
  by_cases h0 : i ≥ 0
  · obtain ⟨o, rfl⟩ : ∃ o : Nat, i = o := ⟨i.toNat, by omega⟩
    have ho : o < x.size := by
      have := (Lib.indexByte_some hi).1
      rw [hsz]
      exact (List.getElem?_eq_some_iff.1 this).1
    have hw : wrap64 ((o : Int) + ((⟨#[10]⟩ : ByteArray).size : Int)) = ((o + 1 : Nat) : Int) := by rw [h1, wrap64_id _ (by omega)]; omega
    rw [if_pos h0, if_pos (by omega), if_pos (by omega), hw, if_pos (by omega), if_pos (by omega)]
    refine ⟨_, _, _, rfl, ?_, fun _ => ?_⟩
    · rw [extract_size, extract_size]; omega
    · rw [extract_size]; omega
  · rw [if_neg h0]
    have he : (⟨#[]⟩ : ByteArray).size = 0 := rfl
    exact ⟨x, ⟨#[]⟩, false, rfl, by rw [he]; omega, fun h => by rw [he]; exact h⟩

theorem trim_ok (x : ByteArray) (hx : x.size ≤ 9223372036854775000) : ∃ a, strings_TrimSuffix.f x (⟨#[13]⟩ : ByteArray) = some a ∧ a.size ≤ x.size := by
  have h1 : (⟨#[13]⟩ : ByteArray).size = 1 := rfl
  unfold strings_TrimSuffix.f stringslite_TrimSuffix.f stringslite_HasSuffix.f
  rw [h1]
  by_cases h0 : (x.size : Int) ≥ ((1 : Nat) : Int)
  · have hw : wrap64 ((x.size : Int) - ((1 : Nat) : Int)) = ((x.size - 1 : Nat) : Int) := by rw [wrap64_id _ (by omega)]; omega
    rw [if_pos h0, hw, if_pos (by omega), if_pos (by omega)]
    simp only [Option.bind_some]
    split
    · rw [if_pos (by omega), if_pos (by omega)]
      exact ⟨_, rfl, by rw [extract_size]; omega⟩
    · exact ⟨_, rfl, Nat.le_refl _⟩
  · rw [if_neg h0]
    exact ⟨_, rfl, Nat.le_refl _⟩

theorem lines_go (n : Nat) : ∀ (x : ByteArray) (acc : List ByteArray), x.size ≤ n → acc.length + x.size < 8796093022208 →
    ∃ L, sizes L ≤ x.size ∧ L.length ≤ x.size ∧ ∀ k, n + 1 ≤ k → text_Lines.l0 k x acc = some (acc ++ L) := by
  induction n with
  | zero =>
    intro x acc hx _
    refine ⟨[], by simp [sizes], Nat.zero_le _, fun k hk => ?_⟩
    obtain ⟨m, rfl⟩ : ∃ m, k = m + 1 := ⟨k - 1, by omega⟩
    rw [text_Lines.l0, if_pos ((toList_nil_iff x).2 (by omega)), List.append_nil]
  | succ n ih =>
    intro x acc hx hacc
    rcases Nat.eq_zero_or_pos x.size with h0 | h0
    · refine ⟨[], by simp [sizes], Nat.zero_le _, fun k hk => ?_⟩
      obtain ⟨m, rfl⟩ : ∃ m, k = m + 1 := ⟨k - 1, by omega⟩
      rw [text_Lines.l0, if_pos ((toList_nil_iff x).2 h0), List.append_nil]
    · obtain ⟨a, b, f, hc, hab, hb⟩ := cut_ok x (by omega)
      have hb := hb h0
      have hne : ¬ x.toList = ([] : List UInt8) := fun h => by rw [toList_nil_iff] at h; omega
      have hacc2 : acc.length < 8796093022208 := by omega
      cases f with
      | true =>
        obtain ⟨t, ht, hts⟩ := trim_ok a (by omega)
        obtain ⟨L, h1, h2, h3⟩ := ih b (acc ++ [t]) (by omega) (by simp; omega)
        refine ⟨t :: L, by rw [sizes_cons]; omega, by simp; omega, fun k hk => ?_⟩
        obtain ⟨m, rfl⟩ : ∃ m, k = m + 1 := ⟨k - 1, by omega⟩
        rw [text_Lines.l0, if_neg hne, hc]
        simp only [Option.bind_some, if_true]
        rw [ht]
        simp only [Option.bind_some]
        rw [if_pos hacc2, h3 m (by omega), List.append_assoc]
        rfl
      | false =>
        obtain ⟨L, h1, h2, h3⟩ := ih b (acc ++ [a]) (by omega) (by simp; omega)
        refine ⟨a :: L, by rw [sizes_cons]; omega, by simp; omega, fun k hk => ?_⟩
        obtain ⟨m, rfl⟩ : ∃ m, k = m + 1 := ⟨k - 1, by omega⟩
        rw [text_Lines.l0, if_neg hne, hc]
        simp only [Option.bind_some]
        rw [if_neg (by simp), if_pos hacc2, h3 m (by omega), List.append_assoc]
        rfl

/-- text.Lines is defined from some number of rounds on -/
theorem lines_ok (x : ByteArray) (hx : x.size ≤ 4096) : ∃ L, sizes L ≤ x.size ∧ L.length ≤ x.size ∧ ∀ k, 4097 ≤ k → text_Lines.f k x = some L := by
  obtain ⟨L, h1, h2, h3⟩ := lines_go 4096 x [] hx (by simp; omega)
  exact ⟨L, h1, h2, fun k hk => by rw [text_Lines.f, h3 k hk, List.nil_append]⟩
end Go.Proofs.YtjnlppmodagegaaDoor.PPd
