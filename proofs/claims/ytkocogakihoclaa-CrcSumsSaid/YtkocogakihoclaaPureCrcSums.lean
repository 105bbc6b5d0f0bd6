/- THE STATEMENT OF THE LAW CrcSums, over numbers and lists: the two sums are one. No condition beyond the statement's own. -/
import Derived.Test.YtkocogakihoclaaPCx1
import Derived.Test.YtkocogakihoclaaCrcPure
namespace Go.Proofs.Ytkocogakihoclaa.Pure
open Go.RowKit Go.Proofs.Ytkocogakihoclaa.PC Go.Proofs.Ytkocogakihoclaa.PS Go.Proofs.Ytkocogakihoclaa.Given Go.Proofs.YtkocogakihoclaaW.PrintWords Go.Proofs.YtkocogakihoclaaW.PrintLast
theorem CrcSums : commonplacelaw15_CrcSums.Pure := by
  intro l0 a1 _ h1 hw hs
  have e := nB_toB l0 (isB_of l0 hw)
  generalize toB l0 = bs at e
  subst e
  rw [nB_length] at h1
  have hr := u32_of a1 hs
  obtain ⟨s, rfl⟩ := Int.eq_ofNat_of_zero_le hr.1
  refine ⟨10 * bs.length + 1, ?_⟩
  unfold commonplacelaw15_CrcSums.f
  show ((own.f (nB bs)).bind _) = _
  rw [own_f bs (by omega), Option.bind_some, sum_f bs (by omega), Option.bind_some, refSum_f _ bs (by omega) (by omega), Option.bind_some, if_pos rfl]
  show ((own.f (nB bs)).bind _) = _
  rw [own_f bs (by omega), Option.bind_some, more_f s bs (by omega) (by omega), Option.bind_some, refMore_f _ s bs (by omega) (by omega) (by omega), Option.bind_some, if_pos rfl]
  rfl
end Go.Proofs.Ytkocogakihoclaa.Pure
