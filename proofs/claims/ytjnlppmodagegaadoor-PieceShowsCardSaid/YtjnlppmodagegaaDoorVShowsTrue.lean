/-
  The plain law of PieceShows: the printed function answers true. No program in sight but the printed functions.
-/
import Derived.Test.YtjnlppmodagegaaDoorVBindA
import Derived.Test.YtjnlppmodagegaaDoorVShowsWalk
import Derived.Test.YtjnlppmodagegaaDoorVSmallTrue
namespace Go.Proofs.YtjnlppmodagegaaDoor.PPd
open Go Go.RowKit Go.Proofs.YtjnlppmodagegaaDoorW.PrintWords Go.Proofs.YtjnlppmodagegaaDoorW.PrintMore

theorem leafOf_HH (x : ByteArray) (h : x.size ≤ 1000000) : leafOf x = HH ((⟨#[0]⟩ : ByteArray) ++ x) := by
  have e1 : (⟨#[0]⟩ : ByteArray).size = 1 := rfl
  have g1 : 1 + x.size ≤ 9223372036854775807 := by omega
  have g2 : ((⟨#[0]⟩ : ByteArray) ++ x).size ≤ 70368744177664 := by rw [ByteArray.size_append]; omega
  unfold leafOf
  rw [merkle_Leaf.f, if_pos g1, sum_ok _ g2]
  rfl
section
variable (a0 a1 : ByteArray) (l : List S43) (L : List ByteArray)
def lf (i : Nat) : ByteArray := leafOf (saltOf a0 a1 i ++ lineAt L i)
def lfs (n : Nat) : List ByteArray := (List.range' 0 n).map (lf a0 a1 L)
end
section
variable {a0 a1 : ByteArray} {l : List S43} {L : List ByteArray}
theorem line_le (h : sizes L ≤ 2000) (i : Nat) : (lineAt L i).size ≤ 2000 := by
  unfold lineAt
  cases hi : L[i]? with
  | none => show ByteArray.empty.size ≤ _; exact Nat.zero_le _
  | some x => exact Nat.le_trans (sizes_mem (List.mem_of_getElem? hi)) h
theorem lf_size (h0 : a0.size ≤ 200) (h1 : a1.size ≤ 200) (hs : sizes L ≤ 2000) (i : Nat) (hi : i ≤ 100) : (saltOf a0 a1 i ++ lineAt L i).size ≤ 1000000 := by
  have h2 := (saltOf_ok a0 a1 i (by omega) (by omega) (by omega)).2
  have h3 := line_le hs i
  rw [ByteArray.size_append]; omega
theorem showAll_len (n : Nat) : (showAll a0 a1 l L 0 n).length = n := by unfold showAll; rw [List.length_map, List.length_range']
theorem showAll_at (n i : Nat) (h : i < (showAll a0 a1 l L 0 n).length) : (showAll a0 a1 l L 0 n)[i] = showOne a0 a1 (inB l (i : Int)) i (lineAt L i) := by
  have hi : i < n := by rw [showAll_len] at h; exact h
  apply Option.some.inj
  rw [← List.getElem?_eq_getElem h]
  unfold showAll
  rw [List.getElem?_map, List.getElem?_range' hi]
  simp
theorem leafB_one (h : Bool) (i : Nat) (hs : (saltOf a0 a1 i ++ lineAt L i).size ≤ 1000000) : leafB (showOne a0 a1 h i (lineAt L i)) = lf a0 a1 L i := by
  unfold lf
  cases h
  · show HH ((⟨#[0]⟩ : ByteArray) ++ (saltOf a0 a1 i ++ lineAt L i)) = _
    rw [leafOf_HH _ hs]
  · rfl
theorem soundB_one (h : Bool) (i : Nat) (h0 : a0.size ≤ 200) (h1 : a1.size ≤ 200) (hi : i ≤ 100) (hs : sizes L ≤ 2000) : soundB (showOne a0 a1 h i (lineAt L i)) = true := by
  have h2 := (saltOf_ok a0 a1 i (by omega) (by omega) (by omega)).2
  cases h
  · show (decide ((saltOf a0 a1 i).size = 16) && decide ((⟨#[]⟩ : ByteArray) = ByteArray.empty)) = true
    rw [h2]; rfl
  · have h3 := (leafOf_ok _ (lf_size (L := L) h0 h1 hs i hi)).2
    show (decide ((leafOf (saltOf a0 a1 i ++ lineAt L i)).size = 32) && decide ((⟨#[]⟩ : ByteArray) = ByteArray.empty) && decide ((⟨#[]⟩ : ByteArray) = ByteArray.empty)) = true
    rw [h3]; rfl
theorem sml_one (h : Bool) (i : Nat) (h0 : a0.size ≤ 200) (h1 : a1.size ≤ 200) (hi : i ≤ 100) (hs : sizes L ≤ 2000) : smlOne (showOne a0 a1 h i (lineAt L i)) := by
  have h2 := (saltOf_ok a0 a1 i (by omega) (by omega) (by omega)).2
  have h4 := line_le hs i
  cases h
  · exact ⟨by show (saltOf a0 a1 i).size ≤ 2000; omega, h4, Nat.zero_le _⟩
  · have h3 := (leafOf_ok _ (lf_size (L := L) h0 h1 hs i hi)).2
    exact ⟨Nat.zero_le _, Nat.zero_le _, by show (leafOf (saltOf a0 a1 i ++ lineAt L i)).size ≤ 2000; omega⟩
theorem mem_showAll {n : Nat} {x : Sh} (hx : x ∈ showAll a0 a1 l L 0 n) : ∃ i, i < n ∧ x = showOne a0 a1 (inB l (i : Int)) i (lineAt L i) := by
  unfold showAll at hx
  obtain ⟨i, hi, rfl⟩ := List.mem_map.1 hx
  have := (List.mem_range'_1.1 hi).2
  exact ⟨i, by omega, rfl⟩
theorem sml_all (n : Nat) (hn : n ≤ 60) (h0 : a0.size ≤ 200) (h1 : a1.size ≤ 200) (hs : sizes L ≤ 2000) : sml (showAll a0 a1 l L 0 n) := by
  refine ⟨by rw [showAll_len]; omega, fun x hx => ?_⟩
  obtain ⟨i, hi, rfl⟩ := mem_showAll hx
  exact sml_one _ i h0 h1 (by omega) hs
theorem leaves_all (n : Nat) (hn : n ≤ 60) (h0 : a0.size ≤ 200) (h1 : a1.size ≤ 200) (hs : sizes L ≤ 2000) : (showAll a0 a1 l L 0 n).map leafB = lfs a0 a1 L n := by
  unfold showAll lfs
  rw [List.map_map]
  apply List.map_congr_left
  intro i hi
  have := (List.mem_range'_1.1 hi).2
  exact leafB_one _ i (lf_size h0 h1 hs i (by omega))
theorem check_all (n : Nat) (hn : n ≤ 60) (h0 : a0.size ≤ 200) (h1 : a1.size ≤ 200) (hs : sizes L ≤ 2000) : checkB (commitB (lfs a0 a1 L n)) (showAll a0 a1 l L 0 n) = true := by
  unfold checkB
  rw [leaves_all n hn h0 h1 hs, decide_eq_true rfl, Bool.and_true, List.all_eq_true]
  intro x hx
  obtain ⟨i, hi, rfl⟩ := mem_showAll hx
  exact soundB_one _ i h0 h1 (by omega) hs
theorem commit_go (n : Nat) (hL : L.length = n) (hn : n ≤ 60) (h0 : a0.size ≤ 200) (h1 : a1.size ≤ 200) (hs : sizes L ≤ 2000) (d : Nat) :
    ∀ (j : Nat), j + d = n → ∀ k, d + 100 ≤ k → piece_Commit.l0 k a0 a1 (lfs a0 a1 L j) L (n : Int) (j : Int) = some (commitB (lfs a0 a1 L n)) := by
  induction d with
  | zero =>
    intro j hj k hk
    obtain ⟨m, rfl⟩ : ∃ m, k = m + 1 := ⟨k - 1, by omega⟩
    obtain rfl : j = n := by omega
    have hsz : sized (lfs a0 a1 L j) := fun x hx => by
      unfold lfs at hx
      obtain ⟨i, hi, rfl⟩ := List.mem_map.1 hx
      have := (List.mem_range'_1.1 hi).2
      have h3 := (leafOf_ok _ (lf_size (L := L) h0 h1 hs i (by omega))).2
      show (leafOf (saltOf a0 a1 i ++ lineAt L i)).size ≤ 2000
      omega
    have hl : (lfs a0 a1 L j).length = j := by unfold lfs; rw [List.length_map, List.length_range']
    rw [piece_Commit.l0, if_neg (by omega), commit_ok _ (by omega) hsz m (by omega), Option.bind_some]
  | succ d ih =>
    intro j hj k hk
    obtain ⟨m, rfl⟩ : ∃ m, k = m + 1 := ⟨k - 1, by omega⟩
    have hlt : j < L.length := by omega
    have g6 := lf_size (L := L) h0 h1 hs j (by omega)
    obtain ⟨hsalt, hss⟩ := saltOf_ok a0 a1 j (by omega) (by omega) (by omega)
    have hle := line_le hs j
    have hrl : rdOf ByteArray.empty L (j : Int) = lineAt L j := by unfold rdOf lineAt; rw [Int.toNat_natCast, List.getD_eq_getElem?_getD]
    obtain ⟨hleaf, _⟩ := leafOf_ok _ g6
    have hl : (lfs a0 a1 L j).length = j := by unfold lfs; rw [List.length_map, List.length_range']
    have hnext : lfs a0 a1 L j ++ [leafOf (saltOf a0 a1 j ++ lineAt L j)] = lfs a0 a1 L (j + 1) := by
      unfold lfs
      rw [List.range'_concat, List.map_append]
      simp [lf]
    rw [piece_Commit.l0, if_pos (by omega), if_pos (by omega), if_pos (by omega), hsalt, Option.bind_some, hrl, if_pos (by omega), hleaf, Option.bind_some, if_pos (by omega), hnext, wsucc j (by omega)]
    exact ih (j + 1) (by omega) m (by omega)
theorem commitAll_ok (a2 : ByteArray) (hn : L.length ≤ 60) (h0 : a0.size ≤ 200) (h1 : a1.size ≤ 200) (hs : sizes L ≤ 2000) (hlines : ∀ k, 4097 ≤ k → text_Lines.f k a2 = some L) (k : Nat) (hk : 5000 ≤ k) :
    piece_Commit.f k a0 a1 a2 = some (commitB (lfs a0 a1 L L.length)) := by
  have h2 : piece_Lines.f k a2 = some L := by rw [piece_Lines.f, hlines k (by omega), Option.bind_some]
  rw [piece_Commit.f, h2, Option.bind_some]
  exact commit_go L.length rfl hn h0 h1 hs L.length 0 (by omega) k (by omega)

/-! ### a changed line -/
theorem chg_len (xs : List Sh) (p : Nat) (hp : p < xs.length) (y : Sh) : ((([] ++ xs.take p) ++ [y]) ++ xs.drop (p + 1)) = xs.set p y := by
  rw [List.nil_append, List.set_eq_take_append_cons_drop, if_pos hp, List.append_assoc]
  rfl
theorem set_same (xs : List Sh) (p : Nat) (hp : p < xs.length) : xs.set p xs[p] = xs := by
  apply List.ext_getElem?
  intro i
  rw [List.getElem?_set]
  split
  · next h => subst h; first | exact (List.getElem?_eq_getElem hp).symm | (rw [if_pos hp]; exact (List.getElem?_eq_getElem hp).symm)
  · rfl
theorem sml_set (xs : List Sh) (p : Nat) (y : Sh) (h : sml xs) (hy : smlOne y) : sml (xs.set p y) := by
  refine ⟨by rw [List.length_set]; exact h.1, fun x hx => ?_⟩
  rcases List.mem_or_eq_of_mem_set hx with hx | rfl
  · exact h.2 x hx
  · exact hy
/-- what stands behind a changed list -/
theorem changed_ok (c : ByteArray) (xs : List Sh) (p : Nat) (y : Sh) (hp : p < xs.length) (hx : sml xs) (hy : smlOne y) (hc : checkB c xs = true) (q : Bool) (hq1 : q = true → y = xs[p]) (hq2 : leafB xs[p] = leafB y → (¬ xs[p].f0 = true → ¬ y.f0 = true → xs[p] = y) → q = true) (k : Nat) (hk : 140000 ≤ k) :
    ((piece_Check.f k c (xs.set p y)).bind fun t => (if (t == q) = true then (some true) else ((missivelaw20_clash.f k xs (xs.set p y)).bind fun u => (some u)))) = some true := by
  have hs := sml_set xs p y hx hy
  rw [check_ok c _ hs k (by omega), Option.bind_some]
  by_cases e : (checkB c (xs.set p y) == q) = true
  · rw [if_pos e]
  · rw [if_neg e, clash_ok xs _ hx hs k hk, Option.bind_some]
    cases hq : q with
    | true =>
      have h1 := hq1 hq
      rw [h1, set_same xs p hp, hc, hq] at e
      exact absurd rfl e
    | false =>
      have ht : checkB c (xs.set p y) = true := by
        cases h : checkB c (xs.set p y) with
        | true => rfl
        | false => rw [h, hq] at e; exact absurd rfl e
      rcases binds c xs (xs.set p y) hx hs hc ht with ⟨hl, h⟩ | h
      · have h2 := h p hp (by rw [List.length_set]; exact hp)
        rw [List.getElem_set_self] at h2
        have := hq2 h2.1 h2.2
        rw [hq] at this
        cases this
      · rw [clashB_of h]
theorem rd_take (xs : List Sh) (p : Nat) (hp : p < xs.length) : rd_T45 xs (p : Int) = xs[p] := rdS_at xs p hp
theorem last_ok (c : ByteArray) (xs : List Sh) (at_ : Int) (other : ByteArray) (hx : sml xs) (hc : checkB c xs = true) (ho : other.size ≤ 200) (b : Bool) (hb : b = decide (at_ ≥ (xs.length : Int)) ∨ b = true) (h0 : b = false → 0 ≤ at_) (k : Nat) (hk : 140001 ≤ k) :
    missivelaw20_PieceShows.j4 k at_ other true c xs b = some true := by
  obtain ⟨m, rfl⟩ : ∃ m, k = m + 1 := ⟨k - 1, by omega⟩
  rw [missivelaw20_PieceShows.j4]
  by_cases c1 : b = true
  · rw [if_pos c1]
  rw [if_neg c1]
  have hbf := Bool.eq_false_iff.2 c1
  have g0 := h0 hbf
  have g1 : at_ < (xs.length : Int) := by
    rcases hb with hb | hb
    · rw [hbf] at hb
      have := of_decide_eq_false hb.symm
      omega
    · exact absurd hb c1
  obtain ⟨p, rfl⟩ : ∃ p : Nat, at_ = p := ⟨at_.toNat, by omega⟩
  have hp : p < xs.length := by omega
  have hlen := hx.1
  have s1 : (([] : List Sh)).length + (xs.take p).length < 2513169434916 := by rw [List.length_take]; simp only [List.length_nil]; omega
  have s2 : ∀ y : Sh, (([] : List Sh) ++ xs.take p).length + [y].length < 2513169434916 := fun y => by rw [List.length_append, List.length_take]; simp only [List.length_nil, List.length_singleton]; omega
  have s3 : ∀ y : Sh, ((([] : List Sh) ++ xs.take p) ++ [y]).length + (xs.drop (p + 1)).length < 2513169434916 := fun y => by rw [List.length_append, List.length_append, List.length_take, List.length_drop]; simp only [List.length_nil, List.length_singleton]; omega
  have hxp := hx.2 _ (List.getElem_mem hp)
  obtain ⟨x1, x2, x3⟩ := hxp
  rw [if_pos g0, if_pos g1, rd_take xs p hp, wsucc p (by omega)]
  by_cases hf : xs[p].f0 = true
  · have hy : smlOne (⟨xs[p].f0, xs[p].f1, xs[p].f2, HH other⟩ : Sh) := ⟨x1, x2, by show (HH other).size ≤ _; rw [HH_size]; omega⟩
    have main := changed_ok c xs p ⟨xs[p].f0, xs[p].f1, xs[p].f2, HH other⟩ hp hx hy hc (decide (HH other = xs[p].f3))
      (fun h => by rw [of_decide_eq_true h])
      (fun h _ => by
        unfold leafB at h
        rw [if_pos hf, if_pos hf] at h
        exact decide_eq_true h.symm) m (by omega)
    rw [if_pos hf, sum_ok other (by omega), Option.bind_some, Option.bind_some, if_pos (by omega), Int.toNat_natCast, Option.bind_some, if_pos s1, Option.bind_some, Option.bind_some, if_pos (s2 _), Option.bind_some, if_pos (by omega), if_pos (by omega), Int.toNat_natCast, Option.bind_some, if_pos (s3 _), Option.bind_some, if_pos rfl, chg_len xs p hp, tl_beq]
    exact main
  · have hy : smlOne (⟨xs[p].f0, xs[p].f1, other, xs[p].f3⟩ : Sh) := ⟨x1, by show other.size ≤ _; omega, x3⟩
    have main := changed_ok c xs p ⟨xs[p].f0, xs[p].f1, other, xs[p].f3⟩ hp hx hy hc (decide (other = xs[p].f2))
      (fun h => by rw [of_decide_eq_true h])
      (fun _ h => decide_eq_true (by
        have h2 := h hf hf
        have h3 : xs[p].f2 = (⟨xs[p].f0, xs[p].f1, other, xs[p].f3⟩ : Sh).f2 := by rw [← h2]
        exact h3.symm)) m (by omega)
    rw [if_neg hf, Option.bind_some, if_pos (by omega), Int.toNat_natCast, Option.bind_some, if_pos s1, Option.bind_some, Option.bind_some, if_pos (s2 _), Option.bind_some, if_pos (by omega), if_pos (by omega), Int.toNat_natCast, Option.bind_some, if_pos (s3 _), Option.bind_some, if_pos rfl, chg_len xs p hp, tl_beq]
    exact main

/-! ### the loops -/
theorem rdP_any (l : List S43) (j : Nat) (h : j < l.length) : rd_T43 l (j : Int) = l[j] := by
  unfold rd_T43; rw [Int.toNat_natCast, List.getD_eq_getElem?_getD, List.getElem?_eq_getElem h, Option.getD_some]
set_option maxRecDepth 100000 in
theorem shows_go (n : Nat) (hL : L.length = n) (hn : n ≤ 60) (h0 : a0.size ≤ 200) (h1 : a1.size ≤ 200) (hl : l.length ≤ 20) (hs : sizes L ≤ 2000) (at_ : Int) (other c : ByteArray) (ho : other.size ≤ 200) (hc : checkB c (showAll a0 a1 l L 0 n) = true) (F : Nat) (hF : 140002 ≤ F) (d : Nat) :
    ∀ (i : Nat), i + d = n → ∀ k, d * 50 + F ≤ k → missivelaw20_PieceShows.l0 k a0 a1 l at_ other true L c (showAll a0 a1 l L 0 n) (i : Int) = some true := by
  have hlen : (showAll a0 a1 l L 0 n).length = n := showAll_len n
  have hsm := sml_all (l := l) n hn h0 h1 hs
  induction d with
  | zero =>
    intro i hi k hk
    obtain ⟨m, rfl⟩ : ∃ m, k = m + 1 := ⟨k - 1, by omega⟩
    rw [missivelaw20_PieceShows.l0, if_neg (by omega)]
    by_cases c1 : at_ < 0
    · rw [if_pos c1]
      exact last_ok c _ at_ other hsm hc ho true (Or.inr rfl) (fun h => by cases h) m (by omega)
    · rw [if_neg c1]
      exact last_ok c _ at_ other hsm hc ho _ (Or.inl rfl) (fun _ => by omega) m (by omega)
  | succ d ih =>
    intro i hi k hk
    obtain ⟨m, rfl⟩ : ∃ m, k = m + 1 := ⟨k - 1, by omega⟩
    have hil : i < (showAll a0 a1 l L 0 n).length := by omega
    have inn : ∀ (e j : Nat) (b : Bool), j + e = l.length → b = (l.take j).any (has (i : Int)) → ∀ k, e + 1 + (d * 50 + F) ≤ k →
        missivelaw20_PieceShows.l1 k a0 a1 l at_ other true L c (showAll a0 a1 l L 0 n) (i : Int) b (j : Int) = some true := by
      intro e
      induction e with
      | zero =>
        intro j b hj hb k hk
        obtain ⟨m, rfl⟩ : ∃ m, k = m + 1 := ⟨k - 1, by omega⟩
        have hbb : b = inB l (i : Int) := by rw [hb, List.take_of_length_le (by omega)]; rfl
        have hm : d * 50 + F ≤ m := by omega
        have hid : i + 1 + d = n := by omega
        have next := ih (i + 1) hid m hm
        obtain ⟨hsalt, hss⟩ := saltOf_ok a0 a1 i (by omega) (by omega) (by omega)
        have hrl : rdOf ByteArray.empty L (i : Int) = lineAt L i := by unfold rdOf lineAt; rw [Int.toNat_natCast, List.getD_eq_getElem?_getD]
        rw [missivelaw20_PieceShows.l1, if_neg (by omega), if_pos (by omega), if_pos (by omega), rdS_at _ i hil, showAll_at n i hil, ← hbb, wsucc i (by omega)]
        cases b with
        | true =>
          have e0 : (showOne a0 a1 true i (lineAt L i)).f0 = true := rfl
          have e2 : (showOne a0 a1 true i (lineAt L i)).f2.toList = ([] : List UInt8) := tl_nil.2 rfl
          rw [e0, if_neg (by simp), if_pos rfl, if_pos e2]
          exact next
        | false =>
          have e0 : (showOne a0 a1 false i (lineAt L i)).f0 = false := rfl
          have e1 : (showOne a0 a1 false i (lineAt L i)).f1 = saltOf a0 a1 i := rfl
          have e2 : (showOne a0 a1 false i (lineAt L i)).f2 = lineAt L i := rfl
          rw [e0, if_neg (by simp), if_neg (by simp), if_pos (by omega), e2, hrl, if_pos rfl, hsalt, Option.bind_some, e1, if_pos rfl]
          exact next
      | succ e ihe =>
        intro j b hj hb k hk
        obtain ⟨m, rfl⟩ : ∃ m, k = m + 1 := ⟨k - 1, by omega⟩
        have hjl : j < l.length := by omega
        have hm : e + 1 + (d * 50 + F) ≤ m := by omega
        have hts : (l.take (j + 1)).any (has (i : Int)) = (b || has (i : Int) l[j]) := by
          rw [List.take_succ_eq_append_getElem hjl, List.any_append, hb]; simp
        rw [missivelaw20_PieceShows.l1, if_pos (by omega), wsucc j (by omega)]
        by_cases cb : b = true
        · rw [if_pos cb]
          exact ihe (j + 1) true (by omega) (by rw [hts, cb]; rfl) m hm
        · rw [if_neg cb, if_pos (by omega), rdP_any l j hjl]
          rw [Bool.eq_false_iff.2 cb, Bool.false_or] at hts
          by_cases c2 : (i : Int) ≥ l[j].f0
          · rw [if_pos c2]
            exact ihe (j + 1) _ (by omega) (by rw [hts]; unfold has; rw [decide_eq_true (show l[j].f0 ≤ (i : Int) from c2)]; rfl) m hm
          · rw [if_neg c2]
            exact ihe (j + 1) _ (by omega) (by rw [hts]; unfold has; rw [decide_eq_false (show ¬ l[j].f0 ≤ (i : Int) from c2)]; rfl) m hm
    have hm2 : l.length + 1 + (d * 50 + F) ≤ m := by omega
    rw [missivelaw20_PieceShows.l0, if_pos (by omega)]
    exact inn l.length 0 false (by omega) (by simp) m hm2
end
theorem shows_true (a0 a1 a2 : ByteArray) (l : List S43) (at_ : Int) (other : ByteArray) : ∃ k, missivelaw20_PieceShows.f k a0 a1 a2 l at_ other = some true := by
  refine ⟨300000, ?_⟩
  have hsm := small_true 300000 (by omega)
  have j1 : missivelaw20_PieceShows.j0 300000 a0 a1 a2 l at_ other true true = some true := by
    rw [missivelaw20_PieceShows.j0, if_pos rfl]
  rw [missivelaw20_PieceShows.f, hsm, Option.bind_some]
  by_cases c0 : (a0.size : Int) > 200
  · rw [if_pos c0]; exact j1
  rw [if_neg c0]
  by_cases c1 : (a1.size : Int) > 200
  · rw [if_pos c1]; exact j1
  rw [if_neg c1, missivelaw20_short.f]
  by_cases c2 : (a2.size : Int) ≤ 2000
  case neg => rw [if_neg c2, Option.bind_some, if_neg (by simp)]; exact j1
  obtain ⟨L, s1, s2, hlines⟩ := lines_ok a2 (by omega)
  rw [if_pos c2, hlines 300000 (by omega), Option.bind_some, Option.bind_some]
  by_cases c3 : (L.length : Int) ≤ 60
  case neg => rw [decide_eq_false c3, if_neg (by simp)]; exact j1
  rw [decide_eq_true c3, if_pos rfl]
  by_cases c4 : (l.length : Int) > 20
  · rw [if_pos c4]; exact j1
  rw [if_neg c4]
  by_cases c5 : (other.size : Int) > 200
  · rw [decide_eq_true c5]; exact j1
  rw [decide_eq_false c5, missivelaw20_PieceShows.j0, if_neg (by simp)]
  have e1 := commitAll_ok (a0 := a0) (a1 := a1) a2 (by omega) (by omega) (by omega) (by omega) hlines 299999 (by omega)
  have e2 := show_ok a0 a1 a2 l L (by omega) (by omega) (by omega) (by omega) (by omega) hlines 299999 (by omega)
  have hc := check_all (l := l) (L := L) L.length (by omega) (show a0.size ≤ 200 by omega) (show a1.size ≤ 200 by omega) (by omega)
  have hsml := sml_all (l := l) (L := L) L.length (by omega) (show a0.size ≤ 200 by omega) (show a1.size ≤ 200 by omega) (by omega)
  have e3 := check_ok (commitB (lfs a0 a1 L L.length)) _ hsml 299999 (by omega)
  have hlen : ((showAll a0 a1 l L 0 L.length).length : Int) = (L.length : Int) := by rw [showAll_len]
  rw [hlines 299999 (by omega), Option.bind_some, e1, Option.bind_some, e2, Option.bind_some, if_pos hlen, e3, Option.bind_some, hc, missivelaw20_PieceShows.j1, if_neg (by simp)]
  exact shows_go L.length rfl (by omega) (by omega) (by omega) (by omega) (by omega) at_ other _ (by omega) hc 150000 (by omega) L.length 0 (by omega) 299998 (by omega)
end Go.Proofs.YtjnlppmodagegaaDoor.PPd
