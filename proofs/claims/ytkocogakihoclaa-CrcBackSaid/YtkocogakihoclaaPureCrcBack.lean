/- THE STATEMENT OF THE LAW CrcBack, over numbers and lists: what was sealed comes back, what was opened is sealed to what it was. No condition beyond the statement's own. -/
import Derived.Test.YtkocogakihoclaaPCx1
import Derived.Test.YtkocogakihoclaaCrcPure
namespace Go.Proofs.Ytkocogakihoclaa.Pure
open Go.RowKit Go.Proofs.Ytkocogakihoclaa.PC Go.Proofs.Ytkocogakihoclaa.PS Go.Proofs.Ytkocogakihoclaa.Given Go.Proofs.YtkocogakihoclaaW.PrintWords Go.Proofs.YtkocogakihoclaaW.PrintLast
theorem CrcBack : commonplacelaw15_CrcBack.Pure := by
  intro l0 l1 _ h0 hw0 _ h1 hw1
  have e0 := nB_toB l0 (isB_of l0 hw0)
  have e1 := nB_toB l1 (isB_of l1 hw1)
  generalize toB l0 = bs at e0
  generalize toB l1 = xs at e1
  subst e0 e1
  rw [nB_length] at h0 h1
  refine ⟨bs.length + xs.length + 10 + 1, ?_⟩
  unfold commonplacelaw15_CrcBack.f
  show ((own.f (nB bs)).bind _) = _
  rw [own_f bs (by omega), Option.bind_some, seal_f bs (by omega), Option.bind_some, open_f _ (sealB bs) (by rw [sealB_length]; omega) (by rw [sealB_length]; omega), openB_seal, Option.bind_some]
  simp only [if_true]
  rw [same_f _ _ _ (by rw [nB_length]; omega) (by rw [nB_length]; omega), Option.bind_some]
  simp only [decide_true, Bool.not_true]
  simp only [commonplacelaw15_CrcBack.j0]
  rw [if_neg (by decide)]
  show ((own.f (nB xs)).bind _) = _
  rw [own_f xs (by omega), Option.bind_some, open_f _ xs (by omega) (by omega), Option.bind_some]
  unfold openB
  by_cases h : 4 ≤ xs.length ∧ sealB (xs.take (xs.length - 4)) = xs
  · rw [if_pos h]
    simp only [if_true]
    rw [seal_f _ (by rw [List.length_take]; omega), Option.bind_some, h.2, same_f _ _ _ (by rw [nB_length]; omega) (by rw [nB_length]; omega), Option.bind_some, if_pos (by simp)]
    rfl
  · rw [if_neg h]
    simp only [Bool.false_eq_true, if_false]
    rfl
end Go.Proofs.Ytkocogakihoclaa.Pure
