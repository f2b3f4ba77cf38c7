/-
  small() of law 20 answers true: the kernel reckons it (some twenty digests).
-/
import Derived.Test.YtjnlppmodagegaaDoorVPPdx6
namespace Go.Proofs.YtjnlppmodagegaaDoor.PPd
open Go Go.RowKit Go.Proofs.YtjnlppmodagegaaDoorW.PrintWords
theorem small_20 : missivelaw20_small.f 20 = some true := by kernel_rfl
theorem small_true (k : Nat) (hk : 20 ≤ k) : missivelaw20_small.f k = some true := at_rounds missivelaw20_small.mono hk small_20
end Go.Proofs.YtjnlppmodagegaaDoor.PPd
