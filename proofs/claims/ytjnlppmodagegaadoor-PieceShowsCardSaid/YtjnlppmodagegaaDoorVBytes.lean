/-
  Words for a []byte that the call itself makes: what it holds, one byte or a string appended, made, turned into a string.
-/
import Derived.Test.YtjnlppmodagegaaDoorProg
import Derived.Test.YtjnlppmodagegaaDoorVWords
import Derived.Test.YtjnlppmodagegaaDoorVWWords
import Derived.Test.YtjnlppmodagegaaDoorVW7
import Derived.WalkKit
import Derived.Deep.DeepMust
import Derived.Lib.Hide
namespace Go.Proofs.YtjnlppmodagegaaDoor.Bytes
open Go Go.RowKit Words Go.Proofs.YtjnlppmodagegaaDoorW.PrintWords Go.Proofs.YtjnlppmodagegaaDoorW.PrintLast

theorem info_byte : (Tryd.prog.info? 5).map (fun i => (i.zero, i.size, i.bytes)) = some (some (.int .u8 0), 1, 1) := by kernel_rfl

/-- the slice value v holds the n bytes xs, in a row of the call's own (blocks from B on) -/
def OwnB (w : World) (B : Nat) (v : Value) (n : Nat) (xs : List Int) : Prop := xs.length = n ∧ w.ownsRow B 5 1 v n (nums .u8 xs)

section
variable {w w1 : World} {B n : Nat} {v : Value} {xs : List Int}
theorem OwnB.len (h : OwnB w B v n xs) : xs.length = n := h.1
theorem OwnB.own (h : OwnB w B v n xs) : w.ownsRow B 5 1 v xs.length (nums .u8 xs) := by rw [h.1]; exact h.2
theorem OwnB.slice_ (h : OwnB w B v n xs) : ∃ A c, v = .slice A n c := own_slice h.2
theorem OwnB.nil_ (w : World) (B : Nat) : OwnB w B (.slice none 0 0) 0 [] := ⟨rfl, own_nil w B _ _⟩
theorem OwnB.kept {row : Option Nat} (h : OwnB w B v n xs) (hg : w.grownBy w1 row) (hne : v.ownBlock = none ∨ v.ownBlock ≠ row) : OwnB w1 B v n xs := ⟨h.1, h.2.kept hg hne⟩
theorem OwnB.below (h : OwnB w B v n xs) (hb : Below w.heap.size w w1) : OwnB w1 B v n xs := ⟨h.1, pw_own_below h.2 hb⟩
theorem OwnB.drewN (h : OwnB w B v n xs) (k : Nat) : OwnB (w.drewN k) B v n xs := h
theorem OwnB.drew (h : OwnB w B v n xs) : OwnB w.drew B v n xs := h
theorem OwnB.alloc (h : OwnB w B v n xs) (o : Obj) : OwnB (w.alloc o) B v n xs := ⟨h.1, h.2.alloc o⟩
theorem OwnB.str (h : OwnB w B v n xs) : (convert 59 9 v).run Tryd.prog w = .ok (.string (strOfNums xs)) w :=
  own_string Tryd.underlying59 Tryd.underlying5 Tryd.underlying9 h.2
theorem OwnB.ne_blk {g : Nat} {t : TypeId} {cs : Array Value} (h : OwnB w B v n xs) (hg : Blk w g t cs) (hne : 5 ≠ t) : some g ≠ v.ownBlock := fun e => own_blk_ne h.2 hg hne e.symm
end

section
variable {ops : Array Oper} {rest : List Oper} {o : Oper} {a : Act} {Q : Exit → Act → World → Prop}
theorem makeB {W : World} {B : Nat} (hgd : o.guard = none) (l c : Operand) (ho : o.op = Op.makeSlice 59 l c) (hl : a.eval l = .int .i64 0) (m : Int) (hc : a.eval c = .int .i64 m) (h0 : 0 ≤ m) (hm : m ≤ 140737488355328) (hB : B ≤ W.heap.size)
    (h : ∀ w1, OwnB w1 B (.slice (some ⟨W.heap.size, 0, none⟩) 0 m.toNat) 0 [] → W.grownBy w1 none → wpList Tryd.prog ops Q rest (a.put o.dst (.slice (some ⟨W.heap.size, 0, none⟩) 0 m.toNat)) w1) : wpList Tryd.prog ops Q (o :: rest) a W := by
  obtain ⟨i0, hi, hz0, hz1, hz2⟩ := info_parts info_byte
  exact wpList_make_own W hgd l c 59 ho B 5 i0 (.int .u8 0) 1 Tryd.underlying59 hi hz0 hz1 .i64 .i64 m m.toNat hl hc (by omega) (by rw [hz2]; omega) (by unfold maxLen; omega) hB
    fun w1 h1 h2 => h w1 ⟨rfl, h1⟩ h2
theorem appB {w0 W : World} {B n : Nat} {v : Value} {xs : List Int} (hgd : o.guard = none) (s x : Operand) (ho : o.op = .call { callee := .builtin .append, args := #[s, x], argTypes := #[59, 59] })
    (y : Int) (hs : a.eval s = v) (hx : a.eval x = .slice (some ⟨W.heap.size, 0, none⟩) 1 1) (HO : OwnB W B v n xs) (HB : Below B w0 W) (hbase : B ≤ W.heap.size) (hl : n + 1 ≤ 140737488355328)
    (h : ∀ v1 w1, OwnB w1 B v1 (n + 1) (xs ++ [y]) → Below B w0 w1 → W.grownBy w1 v.ownBlock → wpList Tryd.prog ops Q rest (a.put o.dst v1) w1) : wpList Tryd.prog ops Q (o :: rest) a (W.alloc (.cells #[.int .u8 y] 5)) :=
  print_append_num (w0 := w0) B hgd s x 59 5 .u8 1 ho Tryd.underlying59 info_byte (by decide) v xs y hs hx HO.own HB hbase (by rw [HO.1]; omega)
    fun v1 w1 h1 h2 h3 _ => h v1 w1 ⟨by rw [List.length_append, HO.1]; rfl, by rw [List.length_append, HO.1] at h1; exact h1⟩ h2 h3
theorem appStrB {w0 W : World} {B n : Nat} {v : Value} {xs : List Int} (hgd : o.guard = none) (s x : Operand) (ho : o.op = .call { callee := .builtin .append, args := #[s, x], argTypes := #[59, 9] })
    (y : ByteArray) (hs : a.eval s = v) (hx : a.eval x = .string y) (HO : OwnB W B v n xs) (HB : Below B w0 W) (hbase : B ≤ W.heap.size) (hl : n + y.size ≤ 140737488355328)
    (h : ∀ v1 w1, OwnB w1 B v1 (n + y.size) (xs ++ bytesOf y) → Below B w0 w1 → W.grownBy w1 v.ownBlock → wpList Tryd.prog ops Q rest (a.put o.dst v1) w1) : wpList Tryd.prog ops Q (o :: rest) a W :=
  print_append_str (w0 := w0) B hgd s x 59 9 5 ho Tryd.underlying59 Tryd.underlying9 info_byte v xs y hs hx HO.own HB hbase (by rw [HO.1]; omega)
    fun v1 w1 h1 h2 h3 => h v1 w1 ⟨by rw [List.length_append, HO.1, bytesOf_length], by rw [List.length_append, HO.1, bytesOf_length] at h1; exact h1⟩ h2 h3
/-- several bytes at once: append(s, b0, b1, ..) -/
theorem appManyB {w0 W : World} {B n : Nat} {v : Value} {xs ys : List Int} (hgd : o.guard = none) (s x : Operand) (ho : o.op = .call { callee := .builtin .append, args := #[s, x], argTypes := #[59, 59] })
    (m : Nat) (hm : ys.length = m) (cells : Array Value) (hcs : cells = (nums .u8 ys).toArray) (hs : a.eval s = v) (hx : a.eval x = .slice (some ⟨W.heap.size, 0, none⟩) m m) (HO : OwnB W B v n xs) (HB : Below B w0 W) (hbase : B ≤ W.heap.size) (hl : n + m ≤ 140737488355328)
    (h : ∀ v1 w1, OwnB w1 B v1 (n + m) (xs ++ ys) → Below B w0 w1 → W.grownBy w1 v.ownBlock → wpList Tryd.prog ops Q rest (a.put o.dst v1) w1) : wpList Tryd.prog ops Q (o :: rest) a (W.alloc (.cells cells 5)) := by
  subst hcs
  obtain ⟨i0, hi, hz0, hz1, hz2⟩ := info_parts info_byte
  refine wpList_append_own_at (W.alloc (.cells (nums .u8 ys).toArray 5)) hgd s x 59 ho B 5 i0 (.int .u8 0) 1 1 Tryd.underlying59 hi hz0 hz1 hz2 rfl (by omega) v n (nums .u8 xs) hs (HO.2.alloc _) ⟨W.heap.size, 0, none⟩ m m (nums .u8 ys) hx (by rw [nums_length, hm, Nat.mul_one])
    (World.news_of_block (cs := (nums .u8 ys).toArray) (t := 5) (fr := (0, 0)) (heap_alloc_new W _)) (by simp [nums, Value.oneCell']) (by simp only [maxLen]; omega) (by omega) (by simp; omega) ?_
  intro v1 w1 hown hg _ _
  exact h v1 w1 ⟨by rw [List.length_append, HO.1, hm], by rw [nums_append]; exact hown⟩ ((HB.alloc hbase _).grown hg (by simp; omega) (own_base HO.2)) (World.grownBy.trans (World.grownBy_alloc W _ _) hg)
end
end Go.Proofs.YtjnlppmodagegaaDoor.Bytes
