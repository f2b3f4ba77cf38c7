/-
  The plain law of PieceBinds: the printed function answers true. No program in sight but the printed functions.
-/
import Derived.Test.YtjnlppmodagegaaDoorYBind
import Derived.Test.YtjnlppmodagegaaDoorYPPdx11
import Derived.Test.YtjnlppmodagegaaDoorYSmallTrue
namespace Go.Proofs.YtjnlppmodagegaaDoor.PPd
open Go Go.RowKit Go.Proofs.YtjnlppmodagegaaDoorW.PrintWords Go.Proofs.YtjnlppmodagegaaDoorW.PrintMore

theorem binds_true (a0 : ByteArray) (l1 l2 : List Sh) : ∃ k, missivelaw20_PieceBinds.f k a0 l1 l2 = some true := by
  refine ⟨200000, ?_⟩
  have hsm := small_true 200000 (by omega)
  have j1 : missivelaw20_PieceBinds.j0 200000 l1 l2 true true = some true := by
    rw [missivelaw20_PieceBinds.j0, if_pos rfl]
  obtain ⟨t1, f1, g1⟩ := few_ok l1 200000 (by omega)
  obtain ⟨t2, f2, g2⟩ := few_ok l2 200000 (by omega)
  rw [missivelaw20_PieceBinds.f, hsm, Option.bind_some, f1, Option.bind_some]
  by_cases c1 : t1 = true
  case neg => rw [if_neg c1]; exact j1
  rw [if_pos c1, f2, Option.bind_some]
  by_cases c2 : t2 = true
  case neg => rw [if_neg c2]; exact j1
  have s1 := g1 c1
  have s2 := g2 c2
  rw [if_pos c2, check_ok a0 l1 s1 200000 (by omega), Option.bind_some]
  by_cases c3 : checkB a0 l1 = true
  case neg => rw [if_neg c3]; exact j1
  rw [if_pos c3, check_ok a0 l2 s2 200000 (by omega), Option.bind_some]
  by_cases c4 : checkB a0 l2 = true
  case neg =>
    rw [Bool.eq_false_iff.2 c4]
    exact j1
  obtain ⟨t, ht, hal⟩ := alike_some l1 l2 s1 s2 199999 (by omega)
  rw [c4, missivelaw20_PieceBinds.j0, if_neg (by simp), if_pos rfl, ht, Option.bind_some]
  by_cases c5 : t = true
  · rw [if_pos c5]
  · rw [if_neg c5, clash_ok l1 l2 s1 s2 199999 (by omega), Option.bind_some]
    rcases binds a0 l1 l2 s1 s2 c3 c4 with h | h
    · exact absurd (hal h) c5
    · rw [clashB_of h]
end Go.Proofs.YtjnlppmodagegaaDoor.PPd
