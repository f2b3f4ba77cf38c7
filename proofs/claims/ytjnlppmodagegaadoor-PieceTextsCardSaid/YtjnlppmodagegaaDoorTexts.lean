/-
  The plain law of PieceTexts: the printed function answers true. No program in sight but the printed functions.
-/
import Derived.Test.YtjnlppmodagegaaDoorShow
import Derived.Test.YtjnlppmodagegaaDoorPPdx7
import Derived.Test.YtjnlppmodagegaaDoorSmallTrue
namespace Go.Proofs.YtjnlppmodagegaaDoor.PPd
open Go Go.RowKit Go.Proofs.YtjnlppmodagegaaDoorW.PrintWords Go.Proofs.YtjnlppmodagegaaDoorW.PrintMore

def redacted : ByteArray := ⟨#[91, 114, 101, 100, 97, 99, 116, 101, 100, 93, 10]⟩
def oneText (h : Bool) (line : ByteArray) : List UInt8 := if h = true then redacted.data.toList else line.data.toList ++ [10]
theorem one_show (a0 a1 : ByteArray) (h : Bool) (i : Nat) (line : ByteArray) : piece_Text.one (showOne a0 a1 h i line) = oneText h line := by
  cases h <;> rfl
theorem text_showAll (a0 a1 : ByteArray) (l : List S43) (L : List ByteArray) (j d : Nat) : piece_Text.s (showAll a0 a1 l L j d) = (List.range' j d).flatMap fun i : Nat => oneText (inB l (i : Int)) (lineAt L i) := by
  unfold piece_Text.s showAll
  rw [List.flatMap_map]
  congr 1
  funext i
  exact one_show a0 a1 _ i _
def txt (l : List S43) (L : List ByteArray) (d : Nat) : List UInt8 := (List.range' 0 d).flatMap fun i : Nat => oneText (inB l (i : Int)) (lineAt L i)
theorem txt_succ (l : List S43) (L : List ByteArray) (d : Nat) : txt l L (d + 1) = txt l L d ++ oneText (inB l (d : Int)) (lineAt L d) := by
  unfold txt
  rw [List.range'_concat, List.flatMap_append]
  simp
theorem one_len (h : Bool) (line : ByteArray) : (oneText h line).length ≤ line.size + 11 := by
  cases h
  · show (line.data.toList ++ [10]).length ≤ _
    rw [List.length_append, data_length]; simp
  · have : (oneText true line).length = 11 := rfl
    omega
theorem sizes_take_succ (L : List ByteArray) (j : Nat) (h : j < L.length) : sizes (L.take (j + 1)) = sizes (L.take j) + (lineAt L j).size := by
  unfold sizes lineAt
  rw [List.take_succ_eq_append_getElem h, List.map_append, List.sum_append, List.getElem?_eq_getElem h]
  simp
theorem txt_len (l : List S43) (L : List ByteArray) (d : Nat) (hd : d ≤ L.length) : (txt l L d).length ≤ sizes (L.take d) + 11 * d := by
  induction d with
  | zero => simp [txt]
  | succ d ih =>
    have h1 := ih (by omega)
    have h2 := one_len (inB l (d : Int)) (lineAt L d)
    rw [txt_succ, List.length_append, sizes_take_succ L d (by omega)]
    omega
theorem sizes_take_le (L : List ByteArray) (d : Nat) : sizes (L.take d) ≤ sizes L := by
  have : sizes L = sizes (L.take d) + sizes (L.drop d) := by
    unfold sizes
    rw [← List.sum_append, ← List.map_append, List.take_append_drop]
  omega
theorem txt_small (l : List S43) (L : List ByteArray) (d : Nat) (hd : d ≤ L.length) (hL : L.length ≤ 4096) (hs : sizes L ≤ 900000) : (txt l L d).length ≤ 1000000 := by
  have h1 := txt_len l L d hd
  have h2 := sizes_take_le L d
  omega
theorem in_nil (i : Int) : inB [] i = false := rfl
theorem txt_nil (L : List ByteArray) (d : Nat) (hd : d ≤ L.length) : txt [] L d = text_Unlines.s (L.take d) := by
  induction d with
  | zero => rfl
  | succ d ih =>
    rw [txt_succ, ih (by omega), List.take_succ_eq_append_getElem (by omega)]
    unfold text_Unlines.s
    rw [List.flatMap_append]
    congr 1
    unfold lineAt
    rw [List.getElem?_eq_getElem (by omega)]
    simp [oneText, in_nil, text_Unlines.one]

theorem byteArray_of_list (x : ByteArray) (l : List UInt8) (h : x.data.toList = l) : x = ⟨l.toArray⟩ := by
  subst h
  obtain ⟨⟨t⟩⟩ := x
  rfl

theorem texts_go (a0 a1 a2 : ByteArray) (l : List S43) (L : List ByteArray) (n : Nat) (hn : L.length = n) (h0 : a0.size ≤ 1000000) (h1 : a1.size ≤ 1000000) (hl : l.length ≤ 4096) (hL : n ≤ 4096) (hs : sizes L ≤ 900000)
    (hlines : ∀ k, 4097 ≤ k → text_Lines.f k a2 = some L) (d : Nat) :
    ∀ (j : Nat) (want : ByteArray), j + d = n → want.data.toList = txt l L j → ∀ k, d + 8300 ≤ k → missivelaw20_PieceTexts.l0 k a0 a1 a2 l true L want (j : Int) = some true := by
  induction d with
  | zero =>
    intro j want hj hw k hk
    obtain ⟨m, rfl⟩ : ∃ m, k = m + 1 := ⟨k - 1, by omega⟩
    have hjn : j = L.length := by omega
    subst hjn
    have g1 : ¬ (L.length : Int) < (L.length : Int) := by omega
    have e1 := show_ok a0 a1 a2 l L h0 h1 hl (by omega) hs hlines m (by omega)
    have e2 := show_ok a0 a1 a2 [] L h0 h1 (by simp) (by omega) hs hlines m (by omega)
    have t1 : piece_Text.s (showAll a0 a1 l L 0 L.length) = txt l L L.length := text_showAll a0 a1 l L 0 L.length
    have t2 : piece_Text.s (showAll a0 a1 [] L 0 L.length) = txt [] L L.length := text_showAll a0 a1 [] L 0 L.length
    have s1 := txt_small l L L.length (Nat.le_refl _) (by omega) hs
    have s2 := txt_small [] L L.length (Nat.le_refl _) (by omega) hs
    have u1 : txt [] L L.length = text_Unlines.s L := by rw [txt_nil L L.length (Nat.le_refl _), List.take_length]
    have q1 : (txt l L L.length).length ≤ 70368744177664 := by omega
    have q2 : (txt [] L L.length).length ≤ 70368744177664 := by omega
    have q3 : (text_Unlines.s L).length ≤ 70368744177664 := by rw [← u1]; exact q2
    have hw2 := byteArray_of_list want _ hw
    rw [missivelaw20_PieceTexts.l0, if_neg g1, if_pos rfl, e1, Option.bind_some, piece_Text.f, t1, if_pos q1, Option.bind_some, hw2, if_pos rfl, e2, Option.bind_some, piece_Text.f, t2, if_pos q2, Option.bind_some, text_Unlines.f, if_pos q3, Option.bind_some, u1]
    simp
  | succ d ih =>
    intro j want hj hw k hk
    obtain ⟨m, rfl⟩ : ∃ m, k = m + 1 := ⟨k - 1, by omega⟩
    have hlt : j < L.length := by omega
    have g1 : (j : Int) < (L.length : Int) := by omega
    have g2 : (0 : Int) ≤ (j : Int) := by omega
    have g7 : j + 1 + d = n := by omega
    have g8 : d + 8300 ≤ m := by omega
    have g9 : 4097 ≤ m := by omega
    have hsz : want.size ≤ 1000000 := by
      rw [← data_length, hw]
      exact txt_small l L j (by omega) (by omega) hs
    have hls : (lineAt L j).size ≤ 900000 := by
      unfold lineAt
      rw [List.getElem?_eq_getElem hlt, Option.getD_some]
      exact Nat.le_trans (sizes_mem (List.getElem_mem hlt)) hs
    have k1 : want.size + 11 ≤ 9223372036854775807 := by omega
    have k2 : want.size + (lineAt L j).size ≤ 9223372036854775807 := by omega
    have k3 : (want ++ lineAt L j).size + 1 ≤ 9223372036854775807 := by rw [ByteArray.size_append]; omega
    have hwr : wrap64 ((j : Int) + 1) = ((j + 1 : Nat) : Int) := by rw [wrap64_id _ (by omega)]; omega
    have hin := in_ok l (j : Int) hl m g9
    have hrl : rdOf ByteArray.empty L (j : Int) = lineAt L j := by unfold rdOf lineAt; rw [Int.toNat_natCast, List.getD_eq_getElem?_getD]
    rw [missivelaw20_PieceTexts.l0, if_pos g1, hin, Option.bind_some]
    cases hb : inB l (j : Int) with
    | true =>
      rw [if_pos rfl, if_pos k1, hwr]
      refine ih (j + 1) _ g7 ?_ m g8
      rw [txt_succ, hb, ByteArray.data_append, Array.toList_append, hw]
      rfl
    | false =>
      rw [if_neg (by simp), if_pos g2, hrl, if_pos k2, if_pos k3, hwr]
      refine ih (j + 1) _ g7 ?_ m g8
      rw [txt_succ, hb, ByteArray.data_append, ByteArray.data_append, Array.toList_append, Array.toList_append, hw, List.append_assoc]
      rfl

theorem texts_true (a0 a1 a2 : ByteArray) (l : List S43) : ∃ k, missivelaw20_PieceTexts.f k a0 a1 a2 l = some true := by
  refine ⟨20000, ?_⟩
  have hsm := small_true 20000 (by omega)
  have j1 : ∀ b : Bool, b = true → missivelaw20_PieceTexts.j0 20000 a0 a1 a2 l true b = some true := fun b hb => by
    rw [hb, missivelaw20_PieceTexts.j0, if_pos rfl]
  rw [missivelaw20_PieceTexts.f, hsm, Option.bind_some]
  by_cases c0 : (a0.size : Int) > 200
  · rw [if_pos c0]; exact j1 _ rfl
  rw [if_neg c0]
  by_cases c1 : (a1.size : Int) > 200
  · rw [if_pos c1]; exact j1 _ rfl
  rw [if_neg c1]
  by_cases c2 : (a2.size : Int) ≤ 2000
  · obtain ⟨L, s1, s2, hlines⟩ := lines_ok a2 (by omega)
    rw [missivelaw20_short.f, if_pos c2, hlines 20000 (by omega), Option.bind_some, Option.bind_some]
    by_cases c3 : (L.length : Int) ≤ 60
    · rw [if_pos (decide_eq_true c3)]
      by_cases c4 : (l.length : Int) > 20
      · exact j1 _ (decide_eq_true c4)
      · have hd : decide ((l.length : Int) > 20) = false := decide_eq_false c4
        rw [hd, missivelaw20_PieceTexts.j0, if_neg (by simp), hlines 19999 (by omega), Option.bind_some]
        exact texts_go a0 a1 a2 l L L.length rfl (by omega) (by omega) (by omega) (by omega) (by omega) hlines L.length 0 _ (by omega) rfl 19999 (by omega)
    · rw [if_neg (by simp; omega)]; exact j1 _ rfl
  · rw [missivelaw20_short.f, if_neg c2, Option.bind_some, if_neg (by simp)]
    exact j1 _ rfl
end Go.Proofs.YtjnlppmodagegaaDoor.PPd
