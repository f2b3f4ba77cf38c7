/-
  What the package-level tables hold, as one word on a world; it stays over draws, new blocks and whatever writes only new blocks.
-/
import Derived.Test.YtjnlppmodagegaaDoorProg
import Derived.Test.YtjnlppmodagegaaDoorVWWords
import Derived.WalkSmall
import Derived.Lib.LaidTab
import Derived.Lib.ItoaNum
namespace Go.Proofs.YtjnlppmodagegaaDoor
open Go Go.RowKit Go.Proofs.YtjnlppmodagegaaDoorW.PrintWords

def constTab : List Int := [1116352408, 1899447441, 3049323471, 3921009573, 961987163, 1508970993, 2453635748, 2870763221, 3624381080, 310598401, 607225278, 1426881987, 1925078388, 2162078206, 2614888103, 3248222580, 3835390401, 4022224774, 264347078, 604807628, 770255983, 1249150122, 1555081692, 1996064986, 2554220882, 2821834349, 2952996808, 3210313671, 3336571891, 3584528711, 113926993, 338241895, 666307205, 773529912, 1294757372, 1396182291, 1695183700, 1986661051, 2177026350, 2456956037, 2730485921, 2820302411, 3259730800, 3345764771, 3516065817, 3600352804, 4094571909, 275423344, 430227734, 506948616, 659060556, 883997877, 958139571, 1322822218, 1537002063, 1747873779, 1955562222, 2024104815, 2227730452, 2361852424, 2428436474, 2756734187, 3204031479, 3329325298]
theorem gConst : Tryd.prog.globalNamed "missive/digest.constants" = some 0 := by kernel_rfl
theorem gPow : Tryd.prog.globalNamed "internal/strconv.uint64pow10" = some 5 := by kernel_rfl

theorem var_lt {P : Program} {g : Nat} {w : World} {n : String} {cs : Array Value} (hg : P.globalNamed n = some g) (hv : w.var? P n = some cs) : g < w.heap.size := by
  rcases Nat.lt_or_ge g w.heap.size with h | h
  · exact h
  · unfold World.var? at hv
    simp [hg, Array.getElem?_eq_none h] at hv

structure GW (w : World) : Prop where
  const : Lib.TabIs Tryd.prog w "missive/digest.constants" .u32 constTab
  pow : Lib.TabIs Tryd.prog w "internal/strconv.uint64pow10" .u64 Lib.pow10Tab

theorem GW.const_lt {w : World} (h : GW w) : 0 < w.heap.size := var_lt gConst h.const
theorem GW.pow_lt {w : World} (h : GW w) : 5 < w.heap.size := var_lt gPow h.pow
theorem GW.below {w w1 : World} (h : GW w) (hb : Below w.heap.size w w1) : GW w1 :=
  ⟨var?_below hb gConst h.const_lt h.const, var?_below hb gPow h.pow_lt h.pow⟩
theorem GW.drewN {w : World} (h : GW w) (n : Nat) : GW (w.drewN n) := h.below (pw_below_drewN (Below.refl _ _) n)
theorem GW.drew {w : World} (h : GW w) : GW w.drew := h.below (Below.refl _ _).drew
theorem GW.alloc {w : World} (h : GW w) (o : Obj) : GW (w.alloc o) := h.below ((Below.refl _ _).alloc (Nat.le_refl _) o)
theorem GW.kcell {w : World} (h : GW w) (i : Nat) (hi : i < 64) : w.cell? ⟨0, i, none⟩ = some (.int .u32 (constTab[i]?.getD 0)) := by
  have := h.const.cell gConst i (by exact hi)
  rwa [List.getD_eq_getElem?_getD] at this
end Go.Proofs.YtjnlppmodagegaaDoor
