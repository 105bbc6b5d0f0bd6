/- THE PLAIN LAW OF frame: what a frame opens to, and that a spoilt one opens to nothing. No program. No condition beyond what each says. -/
import Derived.Test.YtgmbleaecfmfiaaFrSpoil
import Derived.Test.YtgmbleaecfmfiaaCrcBurst
namespace Go.Proofs.Ytgmbleaecfmfiaa.Given
theorem frameE_ne {k : UInt8} (h : k ≠ 0) : frameE k = 0 := by unfold frameE; rw [if_neg h]
theorem frameL_ne {k : UInt8} (h : k ≠ 0) (bs : List UInt8) : frameL k bs = sealB (k :: bs) := by unfold frameL; rw [if_neg h]
theorem frameE_zero {k : UInt8} (h : k = 0) : frameE k = 2 := by unfold frameE; rw [if_pos h]
theorem frameL_zero {k : UInt8} (h : k = 0) (bs : List UInt8) : frameL k bs = [] := by unfold frameL; rw [if_pos h]
theorem openF_seal {k : UInt8} (h : k ≠ 0) (bs : List UInt8) : openF (sealB (k :: bs)) = (k, bs, 0) := by
  unfold openF
  rw [openB_seal]
  simp [h]
theorem sealB_inj {a b : List UInt8} (h : sealB a = sealB b) : a = b := by
  have := congrArg openB h
  rw [openB_seal, openB_seal] at this
  exact Option.some.inj this
theorem frame_unlike (k l : UInt8) (a b : List UInt8) : decide (sealB (k :: a) = sealB (l :: b)) = (decide (k = l) && decide (a = b)) := by
  by_cases h : k = l ∧ a = b
  · obtain ⟨rfl, rfl⟩ := h
    simp
  · rw [decide_eq_false (fun e => h (by have := sealB_inj e; simpa using this))]
    by_cases hk : k = l
    · rw [decide_eq_false (p := a = b) (fun e => h ⟨hk, e⟩)]
      simp
    · rw [decide_eq_false hk]
      rfl
theorem spoilt_none (bs : List UInt8) (p : Nat) (m : UInt8) (hp : p < (sealB bs).length) (hm : m ≠ 0) : openB ((sealB bs).set p ((sealB bs)[p] ^^^ m)) = none := by
  have h := burst_open bs p (fun j => if j = 0 then m else 0)
  rw [burst_same _ p 3 _ (.inr rfl), burst_same _ p 2 _ (.inr rfl), burst_same _ p 1 _ (.inr rfl), burst_set _ p 0 _ hp, burst_zero] at h
  have hc : chg (sealB bs).length p 4 (fun j => if j = 0 then m else 0) = true := by
    rw [chg_succ, chg_succ, chg_succ, chg_succ]
    simp [hp, hm]
  rw [hc] at h
  simp only [Nat.add_zero, if_true, Bool.not_true, Option.isSome_eq_false_iff, Option.isNone_iff_eq_none] at h
  exact h
theorem spoilt_openF (bs : List UInt8) (p : Nat) (m : UInt8) (hp : p < (sealB bs).length) (hm : m ≠ 0) : openF ((sealB bs).set p ((sealB bs)[p] ^^^ m)) = (0, [], 11) := by
  unfold openF
  rw [spoilt_none bs p m hp hm]
theorem spoilF_in {a : Nat} {m : UInt8} {bs : List UInt8} (ha : a < bs.length) (hm : m ≠ 0) : spoilF (a : Int) m bs = (bs.set a (bs[a] ^^^ m), 0) := by
  unfold spoilF
  rw [if_neg (by omega), if_neg hm, Int.toNat_natCast]
  simp [List.getD, List.getElem?_eq_getElem ha]
theorem spoilF_out {at_ : Int} {m : UInt8} {bs : List UInt8} (ha : at_ < 0 ∨ (bs.length : Int) ≤ at_) : spoilF at_ m bs = ([], 17) := by unfold spoilF; rw [if_pos ha]
theorem spoilF_zero {at_ : Int} {m : UInt8} {bs : List UInt8} (ha : ¬ (at_ < 0 ∨ (bs.length : Int) ≤ at_)) (hm : m = 0) : spoilF at_ m bs = ([], 2) := by unfold spoilF; rw [if_neg ha, if_pos hm]
theorem spoilF_back {a : Nat} {m : UInt8} {bs : List UInt8} (ha : a < bs.length) (hm : m ≠ 0) : spoilF (a : Int) m (bs.set a (bs[a] ^^^ m)) = (bs, 0) := by
  rw [spoilF_in (by simpa using ha) hm]
  congr 1
  rw [List.set_set, List.getElem_set_self]
  have : bs[a] ^^^ m ^^^ m = bs[a] := by rw [UInt8.xor_assoc, UInt8.xor_self, UInt8.xor_zero]
  rw [this, List.set_getElem_self]
end Go.Proofs.Ytgmbleaecfmfiaa.Given
