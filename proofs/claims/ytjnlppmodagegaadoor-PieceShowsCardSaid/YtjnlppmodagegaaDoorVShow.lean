/-
  piece.Salt and piece.Show as the printed functions have them: line for line. No program in sight but the printed functions.
-/
import Derived.Test.YtjnlppmodagegaaDoorVCover
import Derived.Test.YtjnlppmodagegaaDoorVPPdx5
import Derived.Lib.ItoaLen
namespace Go.Proofs.YtjnlppmodagegaaDoor.PPd
open Go Go.RowKit Go.Proofs.YtjnlppmodagegaaDoorW.PrintWords Go.Proofs.YtjnlppmodagegaaDoorW.PrintMore

theorem itoa_ok (n : Int) (h : -9223372036854775808 ≤ n ∧ n ≤ 9223372036854775807) : ∃ t, strconv_Itoa.f n = some t ∧ t.size ≤ 21 := by
  unfold strconv_Itoa.f
  rw [if_pos h]
  exact ⟨_, rfl, by have := Lib.itoa_length_le n h.1 h.2; exact this⟩
theorem wireInt_ok (n : Int) (h : -9223372036854775808 ≤ n ∧ n ≤ 9223372036854775807) : ∃ t, wire_Int.f n = some t ∧ t.size ≤ 22 := by
  obtain ⟨t, ht, hs⟩ := itoa_ok n h
  have g : t.size + 1 ≤ 9223372036854775807 := by omega
  refine ⟨t ++ ⟨#[59]⟩, by rw [wire_Int.f, ht, Option.bind_some, if_pos g], ?_⟩
  rw [ByteArray.size_append]
  have : (⟨#[59]⟩ : ByteArray).size = 1 := rfl
  omega
theorem wireText_ok (x : ByteArray) (h : x.size ≤ 1000000) : ∃ t, wire_Text.f x = some t ∧ t.size ≤ 1000100 := by
  obtain ⟨t, ht, hs⟩ := itoa_ok (x.size : Int) (by omega)
  have e1 : (⟨#[58]⟩ : ByteArray).size = 1 := rfl
  have e2 : (⟨#[44]⟩ : ByteArray).size = 1 := rfl
  have g1 : t.size + 1 ≤ 9223372036854775807 := by omega
  have g2 : (t ++ (⟨#[58]⟩ : ByteArray)).size + x.size ≤ 9223372036854775807 := by rw [ByteArray.size_append]; omega
  have g3 : ((t ++ (⟨#[58]⟩ : ByteArray)) ++ x).size + 1 ≤ 9223372036854775807 := by rw [ByteArray.size_append, ByteArray.size_append]; omega
  refine ⟨_, by rw [wire_Text.f, ht, Option.bind_some, if_pos g1, if_pos g2, if_pos g3], ?_⟩
  rw [ByteArray.size_append, ByteArray.size_append, ByteArray.size_append]; omega
theorem mac_size (kt : List Int) (a b : ByteArray) : (Sha.macI kt a b).size = 32 := by
  unfold Sha.macI Sha.macShort
  exact Sha.sumI_size _ _
theorem salt_ok (a0 a1 : ByteArray) (i : Nat) (h0 : a0.size ≤ 1000000) (h1 : a1.size ≤ 1000000) (hi : i ≤ 1000000) : ∃ t, piece_Salt.f a0 a1 (i : Int) = some t ∧ t.size = 16 := by
  obtain ⟨t, ht, hts⟩ := wireText_ok a1 h1
  obtain ⟨u, hu, hus⟩ := wireInt_ok (i : Int) (by omega)
  have g1 : t.size + u.size ≤ 9223372036854775807 := by omega
  have g2 : a0.size ≤ 70368744177664 := by omega
  have g3 : (t ++ u).size ≤ 70368744177000 := by rw [ByteArray.size_append]; omega
  have hm : digest_Mac.f a0 (t ++ u) = some (Sha.macI constTab a0 (t ++ u)) := by rw [digest_Mac.f, if_pos g2, if_pos g3]
  have hs := mac_size constTab a0 (t ++ u)
  have hn : mn ((Sha.macI constTab a0 (t ++ u)).size : Int) 16 = 16 := by rw [hs]; rfl
  have g4 : (0 : Int) ≤ 16 := by omega
  have g5 : (16 : Int) ≤ ((Sha.macI constTab a0 (t ++ u)).size : Int) := by rw [hs]; omega
  refine ⟨(Sha.macI constTab a0 (t ++ u)).extract 0 16, ?_, by rw [extract_size, hs]; rfl⟩
  rw [piece_Salt.f, ht, Option.bind_some, hu, Option.bind_some, if_pos g1, hm, Option.bind_some, hn, if_pos g4, if_pos g5]
  rfl
theorem leaf_ok (x : ByteArray) (h : x.size ≤ 1000000) : ∃ t, merkle_Leaf.f x = some t ∧ t.size = 32 := by
  have e1 : (⟨#[0]⟩ : ByteArray).size = 1 := rfl
  have g1 : 1 + x.size ≤ 9223372036854775807 := by omega
  have g2 : ((⟨#[0]⟩ : ByteArray) ++ x).size ≤ 70368744177664 := by rw [ByteArray.size_append]; omega
  refine ⟨Sha.sumI constTab ((⟨#[0]⟩ : ByteArray) ++ x), ?_, Sha.sumI_size _ _⟩
  rw [merkle_Leaf.f, if_pos g1, digest_Sum.f, if_pos g2]
  rfl

def saltOf (a0 a1 : ByteArray) (i : Nat) : ByteArray := (piece_Salt.f a0 a1 (i : Int)).getD ⟨#[]⟩
def leafOf (x : ByteArray) : ByteArray := (merkle_Leaf.f x).getD ⟨#[]⟩
theorem saltOf_ok (a0 a1 : ByteArray) (i : Nat) (h0 : a0.size ≤ 1000000) (h1 : a1.size ≤ 1000000) (hi : i ≤ 1000000) : piece_Salt.f a0 a1 (i : Int) = some (saltOf a0 a1 i) ∧ (saltOf a0 a1 i).size = 16 := by
  obtain ⟨t, ht, hs⟩ := salt_ok a0 a1 i h0 h1 hi
  unfold saltOf
  rw [ht]
  exact ⟨rfl, hs⟩
theorem leafOf_ok (x : ByteArray) (h : x.size ≤ 1000000) : merkle_Leaf.f x = some (leafOf x) ∧ (leafOf x).size = 32 := by
  obtain ⟨t, ht, hs⟩ := leaf_ok x h
  unfold leafOf
  rw [ht]
  exact ⟨rfl, hs⟩
/-- what Show makes of one line -/
def showOne (a0 a1 : ByteArray) (h : Bool) (i : Nat) (line : ByteArray) : S45 :=
  if h = true then ⟨true, ⟨#[]⟩, ⟨#[]⟩, leafOf (saltOf a0 a1 i ++ line)⟩ else ⟨false, saltOf a0 a1 i, line, ⟨#[]⟩⟩
def lineAt (lines : List ByteArray) (i : Nat) : ByteArray := lines[i]?.getD ByteArray.empty
def showAll (a0 a1 : ByteArray) (l : List S43) (lines : List ByteArray) (j d : Nat) : List S45 :=
  (List.range' j d).map fun i : Nat => showOne a0 a1 (inB l (i : Int)) i (lineAt lines i)
theorem show_go (a0 a1 : ByteArray) (l : List S43) (lines : List ByteArray) (n : Nat) (hn : lines.length = n) (hn2 : n ≤ 4096) (h0 : a0.size ≤ 1000000) (h1 : a1.size ≤ 1000000) (hs : sizes lines ≤ 900000) (d : Nat) :
    ∀ (j : Nat) (acc : List S45), j + d = n → acc.length ≤ j → ∀ k, d + 1 ≤ k →
      piece_Show.l0 k a0 a1 acc ((List.range' 0 n).map fun i : Nat => inB l (i : Int)) lines (n : Int) (j : Int) = some (acc ++ showAll a0 a1 l lines j d) := by
  induction d with
  | zero =>
    intro j acc hj ha k hk
    obtain ⟨m, rfl⟩ : ∃ m, k = m + 1 := ⟨k - 1, by omega⟩
    have g1 : ¬ (j : Int) < (n : Int) := by omega
    rw [piece_Show.l0, if_neg g1]
    simp [showAll]
  | succ d ih =>
    intro j acc hj ha k hk
    obtain ⟨m, rfl⟩ : ∃ m, k = m + 1 := ⟨k - 1, by omega⟩
    have hlt : j < lines.length := by omega
    have g1 : (j : Int) < (n : Int) := by omega
    have g2 : (0 : Int) ≤ (j : Int) := by omega
    have g3 : (j : Int) < (lines.length : Int) := by omega
    have g4 : (j : Int) < ((((List.range' 0 n).map fun i : Nat => inB l (i : Int)).length : Nat) : Int) := by rw [List.length_map, List.length_range']; exact g1
    have g5 : acc.length < 2513169434916 := by omega
    have g6 : j ≤ 1000000 := by omega
    have g7 : j + 1 + d = n := by omega
    have g8 : d + 1 ≤ m := by omega
    have hjn : j < n := by omega
    have hw : wrap64 ((j : Int) + 1) = ((j + 1 : Nat) : Int) := by rw [wrap64_id _ (by omega)]; omega
    have hr : rdOf false ((List.range' 0 n).map fun i : Nat => inB l (i : Int)) (j : Int) = inB l (j : Int) := by
      unfold rdOf
      rw [Int.toNat_natCast, List.getD_eq_getElem?_getD, List.getElem?_map, List.getElem?_range' hjn]
      simp
    have hrl : rdOf ByteArray.empty lines (j : Int) = lineAt lines j := by unfold rdOf lineAt; rw [Int.toNat_natCast, List.getD_eq_getElem?_getD]
    have hls : (lineAt lines j).size ≤ 900000 := by
      unfold lineAt
      rw [List.getElem?_eq_getElem hlt, Option.getD_some]
      exact Nat.le_trans (sizes_mem (List.getElem_mem hlt)) hs
    obtain ⟨hsalt, hss⟩ := saltOf_ok a0 a1 j h0 h1 g6
    have g9 : (saltOf a0 a1 j).size + (lineAt lines j).size ≤ 9223372036854775807 := by omega
    obtain ⟨hleaf, _⟩ := leafOf_ok (saltOf a0 a1 j ++ lineAt lines j) (by rw [ByteArray.size_append]; omega)
    have hcons : showAll a0 a1 l lines j (d + 1) = showOne a0 a1 (inB l (j : Int)) j (lineAt lines j) :: showAll a0 a1 l lines (j + 1) d := by
      unfold showAll; rw [List.range'_succ, List.map_cons]
    have hlen : ∀ x : S45, (acc ++ [x]).length ≤ j + 1 := fun x => by rw [List.length_append]; simp; omega
    rw [piece_Show.l0, if_pos g1, if_pos g2, if_pos g3, hsalt, Option.bind_some, if_pos g4, hr, hrl, hcons]
    cases hb : inB l (j : Int) with
    | true =>
      rw [if_pos rfl, if_pos g9, hleaf, Option.bind_some, if_pos g5, hw, ih (j + 1) _ g7 (hlen _) m g8, List.append_assoc]
      rfl
    | false =>
      rw [if_neg (by simp), if_pos g5, hw, ih (j + 1) _ g7 (hlen _) m g8, List.append_assoc]
      rfl
/-- piece.Show, line for line -/
theorem show_ok (a0 a1 a2 : ByteArray) (l : List S43) (L : List ByteArray) (h0 : a0.size ≤ 1000000) (h1 : a1.size ≤ 1000000) (hl : l.length ≤ 4096) (hL : L.length ≤ 4096) (hs : sizes L ≤ 900000)
    (hlines : ∀ k, 4097 ≤ k → text_Lines.f k a2 = some L) (k : Nat) (hk : 8200 ≤ k) : piece_Show.f k a0 a1 a2 l = some (showAll a0 a1 l L 0 L.length) := by
  have h2 : piece_Lines.f k a2 = some L := by rw [piece_Lines.f, hlines k (by omega), Option.bind_some]
  have h3 := cover_ok l L.length hL hl k hk
  have h4 := show_go a0 a1 l L L.length rfl hL h0 h1 hs L.length 0 [] (by omega) (by simp) k (by omega)
  rw [piece_Show.f, h2, Option.bind_some, h3, Option.bind_some]
  exact h4
end Go.Proofs.YtjnlppmodagegaaDoor.PPd
