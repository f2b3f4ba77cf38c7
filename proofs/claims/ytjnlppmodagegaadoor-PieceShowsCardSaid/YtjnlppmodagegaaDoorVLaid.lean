/-
  The tables that the rows of law 20 list: what the list gives; a world for the witnesses.
-/
import Derived.Test.YtjnlppmodagegaaDoorCards
import Derived.Test.YtjnlppmodagegaaDoorTie
import Derived.Test.YtjnlppmodagegaaDoorVGw
import Derived.WalkKit
import Derived.ProofKit
import Derived.OpenShut
import Derived.Deep.DeepHandedRow
import Derived.Lib.LaidTab
import Derived.Stop.LaidErr
namespace Go.Proofs.YtjnlppmodagegaaDoor.Laid20
open Go.ChangeShapes Go.WideShapes Go.ChangeAt Go.RowKit

theorem own : ownKnob Tryd.prog.godebug = none := by kernel_rfl
theorem tyConst : (Tryd.prog.globals[0]?).map (·.type) = some 119 := by kernel_rfl
theorem tyPow : (Tryd.prog.globals[5]?).map (·.type) = some 184 := by kernel_rfl
theorem cConst : Tryd.prog.cellsOf 119 = 64 := by kernel_rfl
theorem cPow : Tryd.prog.cellsOf 184 = 20 := by kernel_rfl
theorem c32 : Tryd.prog.cellsOf 89 = 1 := by kernel_rfl
theorem c64 : Tryd.prog.cellsOf 94 = 1 := by kernel_rfl
/-- what the list gives -/
theorem gw {W : World} (h : laidMetH Tryd.prog Rows.pieceTextsRow.laid W) : GW W := by
  have h0 : laidMet Tryd.prog Rows.pieceTextsRow.laid W := h
  have h2 := h0.tail.tail
  have h3 := h2.tail
  exact ⟨Lib.tabIs_of_head (rest := []) gConst tyConst Tryd.underlying119 Tryd.underlying89 c32 cConst h3,
    Lib.tabIs_of_head (rest := [("missive/digest.constants", Rows.laid_missive_digest_constants)]) gPow tyPow Tryd.underlying184 Tryd.underlying94 c64 cPow h2⟩

/-- a world for the witnesses: the settled one, each listed table holding what its initialiser lays -/
def tabCells (k : IntKind) : DataW Unit → Array Value
  | .agg l => (l.map fun | .lit (.int _ z) => .int k z | _ => .int k 0).toArray
  | _ => #[]
noncomputable def laidWorld (os : Os) : World :=
  let w := World.holding Tryd.prog os ⟨#[], #[], []⟩
  let put (g : Nat) (cs : Array Value) (h : Array Obj) : Array Obj := h.modify g fun | .cells _ t frozen => .cells cs t frozen | o => o
  { w with heap := put 6 (tabCells .u8 Rows.laid_math_bits_deBruijn32tab) (put 7 (tabCells .u8 Rows.laid_math_bits_deBruijn64tab)
      (put 5 (tabCells .u64 Rows.laid_internal_strconv_uint64pow10) (put 0 (tabCells .u32 Rows.laid_missive_digest_constants) w.heap))) }
theorem laid_met (os : Os) (args : Array Value) : laidMet Tryd.prog Rows.pieceTextsRow.laid ((laidWorld os).forCall (fun _ _ => 0) ⟨#[], args, []⟩).memory :=
  laidMet_of_run' 8 (by kernel_rfl) (by kernel_rfl)
end Go.Proofs.YtjnlppmodagegaaDoor.Laid20
