/-
  piece.Hide: its closure (a span is added to the merged ones), the clone, the test, the function itself.
-/
import Derived.Test.YtjnlppmodagegaaDoorVSort
import Derived.Test.YtjnlppmodagegaaDoorVSpan
import Derived.Deep.RegionHeld3
import Derived.Deep.DeepMust
import Derived.OrdersHeld
import Derived.BigRegion
import Derived.Lib.SliceRun
namespace Go.Proofs.YtjnlppmodagegaaDoor.HideW
open Go Go.RowKit Words Go.Sort Go.Lib Go.Proofs.YtjnlppmodagegaaDoorW.PrintWords SortSpan Span

theorem info_span : (Tryd.prog.info? 43).map (fun i => (i.zero, i.size, i.bytes)) = some (some (.agg #[.int .i64 0, .int .i64 0]), 2, 16) := by kernel_rfl
theorem cellsS_append (a b : List (Int × Int)) : cellsS (a ++ b) = cellsS a ++ cellsS b := by simp [cellsS]
theorem cellsS_one (x : Int × Int) : cellsS [x] = [.int .i64 x.1, .int .i64 x.2] := rfl

/-- the last span's end is raised -/
theorem own_raise_last {w : World} {B g n cap : Nat} {e : TypeId} {zs : List (Int × Int)} {L : Int × Int} (hn : n = zs.length + 1) (h : w.ownsRow B e 2 (.slice (some ⟨g, 0, none⟩) n cap) n (cellsS (zs ++ [L]))) (x : Int) :
    (w.setCell ⟨g, zs.length * 2 + 1, none⟩ (.int .i64 x)).ownsRow B e 2 (.slice (some ⟨g, 0, none⟩) n cap) n (cellsS (zs ++ [(L.1, x)])) ∧ w.grownBy (w.setCell ⟨g, zs.length * 2 + 1, none⟩ (.int .i64 x)) (some g) := by
  rcases h.2 with ⟨h, _⟩ | ⟨g', cap', cur, he, hB, hg, h1, h2, h3, h4⟩
  · cases h
  injection he with h5 h6 h7
  injection h5 with h5
  injection h5 with h5
  subst h5
  subst h7
  refine ⟨⟨by rw [cellsS_length, hn]; simp, .inr ⟨g, cap, cur.setIfInBounds (zs.length * 2 + 1) (.int .i64 x), rfl, hB, blk_set hg _ _, h1, h2, by rw [Array.size_setIfInBounds]; exact h3, ?_⟩⟩, ?_⟩
  · have hl : zs.length * 2 + 1 < n * 2 := by omega
    rw [Array.toList_setIfInBounds, List.take_set, h4, cellsS_append, cellsS_append, cellsS_one, cellsS_one]
    rw [List.set_append_right _ _ (by rw [cellsS_length]; omega), cellsS_length, show zs.length * 2 + 1 - zs.length * 2 = 1 by omega]
    rfl
  · refine ⟨rfl, rfl, rfl, by simp [World.setCell], fun k hk hne => ?_⟩
    exact Below.heap_setCell w ⟨g, _, none⟩ _ k (fun e => hne (by rw [e]))


/-- the closure's variable is written: the merged row has one span more -/
theorem grown_mg {w w2 : World} {B b n : Nat} {A : Option Addr} {cap : Nat} {o : Obj} {xs : List (Int × Int)} (hbk : Blk w b 35 #[.slice A n cap]) (hown : w.ownsRow B 43 2 (.slice A n cap) n (cellsS xs)) (k : Nat) (hg : ((w.alloc o).drewN k).grownBy w2 (Value.slice A n cap).ownBlock) : Blk w2 b 35 #[.slice A n cap] :=
  ((hbk.alloc o).drewN k).grown hg (fun e => own_blk_ne hown hbk (by decide) e.symm)

theorem own_ad {w : World} {B size n : Nat} {e : TypeId} {v : Value} {xs : List Value} (h : w.ownsRow B e size v n xs) (o : Obj) (k : Nat) : ((w.alloc o).drewN k).ownsRow B e size v n xs := h.alloc o
theorem last_cell {w : World} {B n cap : Nat} {e : TypeId} {A : Option Addr} {zs : List (Int × Int)} {L : Int × Int} (hn : (zs ++ [L]).length = n) (h : w.ownsRow B e 2 (.slice A n cap) n (cellsS (zs ++ [L]))) :
    ∃ g, A = some ⟨g, 0, none⟩ ∧ g < w.heap.size ∧ w.cell? ⟨g, zs.length * 2 + 1, none⟩ = some (.int .i64 L.2) := by
  have hp : 0 < n := by rw [← hn]; simp
  obtain ⟨g, cap', hv, _, hgl⟩ := h.form hp
  injection hv with h1 h2 h3
  subst h1
  refine ⟨g, rfl, hgl, ?_⟩
  rw [h.cellAt (g := g) (zs.length * 2 + 1) (by rw [← hn]; simp; omega), cellsS_append, List.getElem?_append_right (by rw [cellsS_length]; omega), cellsS_length, show zs.length * 2 + 1 - zs.length * 2 = 1 by omega]
  rfl
theorem size_ad (w : World) (o : Obj) (k : Nat) : ((w.alloc o).drewN k).heap.size = w.heap.size + 1 := by simp [World.drewN]
theorem below_ad {w : World} {B : Nat} (h : B ≤ w.heap.size) (o : Obj) (k : Nat) : Below B w ((w.alloc o).drewN k) := pw_below_drewN ((Below.refl B w).alloc h o) k

set_option maxHeartbeats 4000000 in
theorem add_any (B b n : Nat) (ys : List (Int × Int)) (s : Int × Int) (v : Value) (w : World) (hn : ys.length = n) (hB : B ≤ b) (hbk : Blk w b 35 #[v]) (hown : w.ownsRow B 43 2 v n (cellsS ys)) (hl : n + 1 ≤ 4398046511104) (hBw : B ≤ w.heap.size) :
    Calls Tryd.prog 73 #[.agg #[.int .i64 s.1, .int .i64 s.2], .pointer (some ⟨b, 0, none⟩)] w fun e w' => e = .returned (.tuple #[]) ∧
      ∃ v', Blk w' b 35 #[v'] ∧ w'.ownsRow B 43 2 v' (addS ys s).length (cellsS (addS ys s)) ∧ Below B w w' := by
  obtain ⟨A, cap, rfl⟩ := own_slice hown
  have hblt := hbk.lt
  have c0 : w.cell? ⟨b, 0, none⟩ = some (.slice A n cap) := hbk.cell 0
  have HN := Lib.hid hn
  have HO := Lib.hid hown
  have HK := Lib.hid hbk
  clear hn hown hbk
  by_cases hbad : ∀ L, ys.getLast? = some L → ¬ s.1 ≤ L.2
  · have hadd : addS ys s = ys ++ [s] := by
      unfold addS
      cases h : ys.getLast? with
      | none => rw [List.getLast?_eq_none_iff.1 h]; rfl
      | some L => simp only; rw [if_neg (hbad L h)]
    have done_ : ∀ (v1 : Value) (w2 : World), w2.ownsRow B 43 2 v1 (n + 1) (cellsS ys ++ [.int .i64 s.1, .int .i64 s.2]) → Below B w w2 → Blk w2 b 35 #[.slice A n cap] → ∃ v', Blk (w2.setCell ⟨b, 0, none⟩ v1) b 35 #[v'] ∧ (w2.setCell ⟨b, 0, none⟩ v1).ownsRow B 43 2 v' (addS ys s).length (cellsS (addS ys s)) ∧ Below B w (w2.setCell ⟨b, 0, none⟩ v1) := by
      intro v1 w2 ho hb hk
      refine ⟨v1, hk.set_ 0 v1, ?_, hb.setCell (p := ⟨b, 0, none⟩) hB _⟩
      rw [hadd, List.length_append, HN.out, cellsS_append, cellsS_one]
      exact own_setCell ho (fun e => own_blk_ne ho hk (by decide) e.symm) v1
    have HD := Lib.hid done_
    clear done_ hadd
    rcases List.eq_nil_or_concat ys with rfl | ⟨zs, L, rfl⟩
    · obtain rfl : 0 = n := HN.out
      go_enter Tryd.func73, Tryd.ntmps73
      go_wp2
      go_quiet (fail)
      go_wp2_with ((with_reducible refine gate_dst (N := 36) rfl ?_); go_must (refine print_append_cells (w0 := w) B rfl (.tmp 33) (.tmp 35) 35 43 (.agg #[.int .i64 0, .int .i64 0]) 2 16 rfl Tryd.underlying35 info_span rfl (by decide) (by decide) (.slice A 0 cap) 0 (cellsS []) [.int .i64 s.1, .int .i64 s.2] rfl (by rw [size_ad]; rfl) rfl (by simp [Value.oneCell']) (own_ad HO.out _ nq) (below_ad hBw _ nq) (by simp; omega) (by omega) ?_; intro v1 w2 h1 h2 h3 h4; have hk2 := grown_mg HK.out HO.out nq h3; obtain ⟨A1, c1, rfl⟩ := own_slice h1; have c2 := hk2.cell 0; have f2 := hk2.frozen 0; simp only [List.getElem?_toArray, List.getElem?_cons_zero] at c2))
      go_end0
      exact ⟨rfl, HD.out _ w2 h1 h2 hk2⟩
    · rw [List.concat_eq_append] at *
      obtain ⟨g, rfl, hg, hcL⟩ := last_cell HN.out HO.out
      have hc : ¬ s.1 ≤ L.2 := hbad L (by simp)
      have hn : n = zs.length + 1 := by rw [← HN.out]; simp
      subst hn
      have x1 : (1 : Int) ≤ ((zs.length + 1 : Nat) : Int) := by omega
      go_enter Tryd.func73, Tryd.ntmps73
      go_wp2
      go_quiet (fail)
      go_wp2_with ((with_reducible refine gate_dst (N := 36) rfl ?_); go_must (refine print_append_cells (w0 := w) B rfl (.tmp 33) (.tmp 35) 35 43 (.agg #[.int .i64 0, .int .i64 0]) 2 16 rfl Tryd.underlying35 info_span rfl (by decide) (by decide) (.slice (some ⟨g, 0, none⟩) (zs.length + 1) cap) (zs.length + 1) (cellsS (zs ++ [L])) [.int .i64 s.1, .int .i64 s.2] rfl (by rw [size_ad]; rfl) rfl (by simp [Value.oneCell']) (own_ad HO.out _ nq) (below_ad hBw _ nq) (by simp; omega) (by omega) ?_; intro v1 w2 h1 h2 h3 h4; have hk2 := grown_mg HK.out HO.out nq h3; obtain ⟨A1, c1, rfl⟩ := own_slice h1; have c2 := hk2.cell 0; have f2 := hk2.frozen 0; simp only [List.getElem?_toArray, List.getElem?_cons_zero] at c2))
      go_end0
      exact ⟨rfl, HD.out _ w2 h1 h2 hk2⟩
  · rcases List.eq_nil_or_concat ys with rfl | ⟨zs, L, rfl⟩
    · exact absurd (fun L h => by cases h) hbad
    rw [List.concat_eq_append] at *
    obtain ⟨g, rfl, hg, hcL⟩ := last_cell HN.out HO.out
    have hc : s.1 ≤ L.2 := by
      rcases Int.lt_or_le L.2 s.1 with h | h
      · exact absurd (fun L' h' => by simp at h'; subst h'; omega) hbad
      · exact h
    have hn : n = zs.length + 1 := by rw [← HN.out]; simp
    clear hbad
    subst hn
    have x1 : (1 : Int) ≤ ((zs.length + 1 : Nat) : Int) := by omega
    have hfL : w.frozen? ⟨g, zs.length * 2 + 1, none⟩ = false := HO.out.frozenAt (g := g) _
    go_enter Tryd.func73, Tryd.ntmps73
    go_wp2
    go_quiet (fail)
    go_wp2
    go_region
    go_wp2
    go_end0
    have hadd : addS (zs ++ [L]) s = zs ++ [(L.1, max L.2 s.2)] := by rw [addS_snoc, if_pos hc]
    have hgb : b ≠ g := fun e => own_blk_ne HO.out HK.out (by decide) (by rw [e]; rfl)
    have ho := own_raise_last rfl (own_ad HO.out (.cells #[.int .i64 s.1, .int .i64 s.2] 43) (nq + 1)) (max L.2 s.2)
    rw [hadd]
    exact ⟨rfl, _, ((HK.out.alloc _).drewN (nq + 1)).far (p := ⟨g, _, none⟩) hgb _, by simpa using ho.1, (below_ad hBw _ (nq + 1)).setCell (p := ⟨g, _, none⟩) (HO.out.lt g rfl).1 _⟩
/-- a slice that reads as these spans -/
def RdS (w : World) (A : Option Addr) (n : Nat) (xs : List (Int × Int)) : Prop :=
  xs.length = n ∧ (0 < n → ∃ ad, A = some ad ∧ ∀ j u, (cellsS xs)[j]? = some u → w.cell? (ad.add j) = some u)
theorem RdS.keep {w w1 : World} {A : Option Addr} {n : Nat} {xs : List (Int × Int)} (h : RdS w A n xs) (hb : Below w.heap.size w w1) : RdS w1 A n xs :=
  ⟨h.1, fun hn => by
    obtain ⟨ad, e, hc⟩ := h.2 hn
    exact ⟨ad, e, fun j u hu => by rw [hb.cell (World.block_lt_of_cell? w _ (hc j u hu))]; exact hc j u hu⟩⟩
theorem RdS.at_ {w : World} {A : Option Addr} {n : Nat} {xs : List (Int × Int)} (h : RdS w A n xs) (k : Nat) (hk : k < n) :
    ∃ ad, A = some ad ∧ w.cell? (ad.add (k * 2)) = some (.int .i64 (xs[k]?.getD (0, 0)).1) ∧ w.cell? ⟨(ad.add (k * 2)).block, (ad.add (k * 2)).off + 1, none⟩ = some (.int .i64 (xs[k]?.getD (0, 0)).2) := by
  obtain ⟨ad, e, hc⟩ := h.2 (by omega)
  have hl : k < xs.length := by rw [h.1]; exact hk
  have e1 : xs[k]?.getD default = xs[k]?.getD (0, 0) := rfl
  refine ⟨ad, e, hc (k * 2) _ ?_, ?_⟩
  · rw [cellsS_get xs _ (by omega), show k * 2 / 2 = k by omega, show k * 2 % 2 = 0 by omega, e1]; rfl
  · rw [← add_field _ _ 1 (by omega)]
    refine hc (k * 2 + 1) _ ?_
    rw [cellsS_get xs _ (by omega), show (k * 2 + 1) / 2 = k by omega, show (k * 2 + 1) % 2 = 1 by omega, e1]; rfl

set_option maxRecDepth 100000 in
set_option maxHeartbeats 2000000 in
theorem clone_any (B n c : Nat) (A : Option Addr) (xs : List (Int × Int)) (w : World) (hr : RdS w A n xs) (hl : n + 1 ≤ 4398046511104) (hB : B ≤ w.heap.size) :
    Calls Tryd.prog 68 #[.slice A n c] w fun e w' => ∃ v, e = .returned v ∧ w'.ownsRow B 43 2 v n (cellsS xs) ∧ Below B w w' := by
  obtain ⟨i0, hi, hz0, hz1, hz2⟩ := info_parts info_span
  have HR := Lib.hid hr
  clear hr
  cases A with
  | none =>
    have hn : n = 0 := by
      rcases Nat.eq_zero_or_pos n with h | h
      · exact h
      · obtain ⟨ad, e, _⟩ := HR.out.2 h; cases e
    subst hn
    have he := Lib.run_eql_slice_nil (P := Tryd.prog) w 35 43 none 0 c 0 0 Tryd.underlying35
    go_enter Tryd.func68, Tryd.ntmps68
    go_wp2
    go_ret
    refine ⟨_, rfl, ?_, Below.refl B w⟩
    rw [List.eq_nil_of_length_eq_zero HR.out.1]
    exact own_nil w B _ _
  | some ad =>
    have he := Lib.run_eql_slice_nil (P := Tryd.prog) w 35 43 (some ad) n c 0 0 Tryd.underlying35
    go_enter Tryd.func68, Tryd.ntmps68
    go_wp2_with ((with_reducible refine gate_dst (N := 7) rfl ?_); go_must (refine wpList_append_own_at (w.alloc (.cells #[] 43)) rfl (.tmp 5) (.tmp 6) 35 rfl B 43 i0 _ 2 16 Tryd.underlying35 hi hz0 hz1 hz2 rfl (by decide) _ 0 [] rfl (World.ownsRow_made w #[] 0 hB (by simp [maxLen]) rfl) ad n c (cellsS xs) rfl (by rw [cellsS_length, HR.out.1]) ?c1 ?c2 (by simp only [maxLen]; omega) (by omega) (by simp; omega) ?_; rotate_left 2; intro v1 w2 h1 h2 h3 h4))
    case c1 =>
      intro j u hu
      have hn : 0 < n := by
        rcases Nat.eq_zero_or_pos n with h | h
        · have := HR.out.1
          rw [h] at this
          rw [List.eq_nil_of_length_eq_zero this] at hu
          cases hu
        · exact h
      obtain ⟨ad', e, hc⟩ := HR.out.2 hn
      injection e with e
      subst e
      rw [World.cell?_alloc_lt w _ _ (World.block_lt_of_cell? w _ (hc j u hu))]
      exact hc j u hu
    case c2 =>
      intro u hu
      unfold cellsS at hu
      obtain ⟨x, _, hx⟩ := List.mem_flatMap.1 hu
      simp [encS] at hx
      rcases hx with rfl | rfl <;> rfl
    go_ret
    rw [Nat.zero_add, List.nil_append] at h1
    exact ⟨_, rfl, h1, ((Below.refl B w).alloc hB _).grown h2 (by simp; omega) (fun k hk => by injection hk with hk; rw [← hk]; exact hB)⟩

end Go.Proofs.YtjnlppmodagegaaDoor.HideW