/- THE PLAIN LAW OF BURSTS: what is changed in four bytes in a row of a sealed row of bytes shows. No program. No condition. -/
import Derived.Test.YtgmbleaecfmfiaaCrcLaw
namespace Go.Proofs.Ytgmbleaecfmfiaa.Given
/-- what is changed of a row of n bytes by k of the mask's, from p on -/
def dmask (n p k : Nat) (m : Nat → UInt8) : List UInt8 := (List.range n).map fun i => if p ≤ i ∧ i < p + k then m (i - p) else 0
theorem dmask_length (n p k : Nat) (m : Nat → UInt8) : (dmask n p k m).length = n := by simp [dmask]
theorem dmask_get (n p k : Nat) (m : Nat → UInt8) (i : Nat) (h : i < n) : (dmask n p k m)[i]? = some (if p ≤ i ∧ i < p + k then m (i - p) else 0) := by simp [dmask, h]
def chg (n p k : Nat) (m : Nat → UInt8) : Bool := (List.range k).any fun j => decide (p + j < n) && decide (m j ≠ 0)
theorem chg_zero (n p : Nat) (m : Nat → UInt8) : chg n p 0 m = false := rfl
theorem chg_succ (n p k : Nat) (m : Nat → UInt8) : chg n p (k + 1) m = (chg n p k m || (decide (p + k < n) && decide (m k ≠ 0))) := by
  simp [chg, List.range_succ]
def burst (s : List UInt8) (p k : Nat) (m : Nat → UInt8) : List UInt8 := xors s (dmask s.length p k m)
theorem burst_length (s : List UInt8) (p k : Nat) (m : Nat → UInt8) : (burst s p k m).length = s.length := by
  simp [burst, xors, dmask_length]
theorem burst_get (s : List UInt8) (p k : Nat) (m : Nat → UInt8) (i : Nat) (h : i < s.length) : (burst s p k m)[i]? = some (s[i] ^^^ (if p ≤ i ∧ i < p + k then m (i - p) else 0)) := by
  have hs : s[i]? = some s[i] := List.getElem?_eq_getElem h
  have := dmask_get s.length p k m i h
  simp only [burst, xors, List.getElem?_zipWith, hs, this]
theorem xor_zero8 (x : UInt8) : x ^^^ 0 = x := by simp
theorem burst_zero (s : List UInt8) (p : Nat) (m : Nat → UInt8) : burst s p 0 m = s := by
  apply List.ext_getElem?
  intro i
  by_cases h : i < s.length
  · rw [burst_get s p 0 m i h, if_neg (by omega), xor_zero8, List.getElem?_eq_getElem h]
  · rw [List.getElem?_eq_none (by rw [burst_length]; omega), List.getElem?_eq_none (by omega)]
/-- a place that there is -/
theorem burst_set (s : List UInt8) (p k : Nat) (m : Nat → UInt8) (h : p + k < s.length) : burst s p (k + 1) m = (burst s p k m).set (p + k) (s[p + k] ^^^ m k) := by
  apply List.ext_getElem?
  intro i
  rw [List.getElem?_set]
  by_cases hi : i < s.length
  · rw [burst_get s p (k + 1) m i hi, burst_get s p k m i hi]
    by_cases e : p + k = i
    · subst e
      rw [if_pos rfl, if_pos (by omega), if_pos (by rw [burst_length]; exact hi), show p + k - p = k by omega]
    · rw [if_neg e]
      have : (p ≤ i ∧ i < p + (k + 1)) ↔ (p ≤ i ∧ i < p + k) := by omega
      simp only [this]
  · rw [List.getElem?_eq_none (by rw [burst_length]; omega), List.getElem?_eq_none (by rw [burst_length]; omega)]
    split
    · rw [if_neg (by rw [burst_length]; omega)]
    · rfl
theorem burst_at (s : List UInt8) (p k : Nat) (m : Nat → UInt8) (h : p + k < s.length) : (burst s p k m)[p + k]? = some s[p + k] := by
  rw [burst_get s p k m _ h, if_neg (by omega), xor_zero8]
/-- a place that there is not, or nothing to be changed -/
theorem burst_same (s : List UInt8) (p k : Nat) (m : Nat → UInt8) (h : s.length ≤ p + k ∨ m k = 0) : burst s p (k + 1) m = burst s p k m := by
  apply List.ext_getElem?
  intro i
  by_cases hi : i < s.length
  · rw [burst_get s p (k + 1) m i hi, burst_get s p k m i hi]
    by_cases e : p + k = i
    · subst e
      rcases h with h | h
      · omega
      · rw [if_pos (by omega), if_neg (by omega), show p + k - p = k by omega, h]
    · have : (p ≤ i ∧ i < p + (k + 1)) ↔ (p ≤ i ∧ i < p + k) := by omega
      simp only [this]
  · rw [List.getElem?_eq_none (by rw [burst_length]; omega), List.getElem?_eq_none (by rw [burst_length]; omega)]
theorem zero_of_toNat (x : UInt8) (h : x.toNat = 0) : x = 0 := by
  apply UInt8.toNat_inj.1
  simpa using h
theorem xors_zero (d : List UInt8) : regB 0 (List.replicate d.length 0) = 0 := by
  rw [regB_zeros]
  exact st_zero _
/-- a row that is nothing but zeros outside of four bytes leads to nothing just if those are zeros, too -/
theorem regB_window (q r : Nat) (a b c d : UInt8) (h : regB 0 (List.replicate q 0 ++ [a, b, c, d] ++ List.replicate r 0) = 0) : a = 0 ∧ b = 0 ∧ c = 0 ∧ d = 0 := by
  have ha := a.toNat_lt
  have hb := b.toNat_lt
  have hc := c.toNat_lt
  have hd := d.toNat_lt
  rw [regB_append, regB_append, regB_zeros, regB_zeros, st_zero, regB_four] at h
  have h1 := st_inj0 _ _ (st_lt _ _ (by omega)) h
  have h2 := st_inj0 _ _ (by omega) h1
  exact ⟨zero_of_toNat a (by omega), zero_of_toNat b (by omega), zero_of_toNat c (by omega), zero_of_toNat d (by omega)⟩
theorem window (D : List UInt8) (q : Nat) (hq : q + 4 ≤ D.length) (hz : ∀ i, i < D.length → (i < q ∨ q + 4 ≤ i) → D[i]? = some 0) :
    ∃ a b c d, D = List.replicate q 0 ++ [a, b, c, d] ++ List.replicate (D.length - (q + 4)) 0 ∧ D[q]? = some a ∧ D[q + 1]? = some b ∧ D[q + 2]? = some c ∧ D[q + 3]? = some d := by
  refine ⟨D[q], D[q + 1], D[q + 2], D[q + 3], ?_, List.getElem?_eq_getElem _, List.getElem?_eq_getElem _, List.getElem?_eq_getElem _, List.getElem?_eq_getElem _⟩
  apply List.ext_getElem?
  intro i
  by_cases hi : i < D.length
  · rcases Nat.lt_or_ge i q with h1 | h1
    · rw [hz i hi (.inl h1), List.append_assoc, List.getElem?_append_left (by simpa using h1)]
      simp [h1]
    · rcases Nat.lt_or_ge i (q + 4) with h2 | h2
      · rw [List.getElem?_append_left (by simp; omega), List.getElem?_append_right (by simpa using h1), List.length_replicate]
        have : i - q = 0 ∨ i - q = 1 ∨ i - q = 2 ∨ i - q = 3 := by omega
        rcases this with e | e | e | e
        · rw [e]; obtain rfl : i = q := by omega
          simp [hi]
        · rw [e]; obtain rfl : i = q + 1 := by omega
          simp [hi]
        · rw [e]; obtain rfl : i = q + 2 := by omega
          simp [hi]
        · rw [e]; obtain rfl : i = q + 3 := by omega
          simp [hi]
      · have hlen : (List.replicate q (0 : UInt8) ++ [D[q], D[q + 1], D[q + 2], D[q + 3]]).length = q + 4 := by simp
        rw [hz i hi (.inr h2), List.getElem?_append_right (by rw [hlen]; exact h2), List.getElem?_replicate, hlen, if_pos (by omega)]
  · rw [List.getElem?_eq_none (by omega), List.getElem?_eq_none (by simp; omega)]
theorem dmask_zero_iff (n p : Nat) (m : Nat → UInt8) (hn : 4 ≤ n) : regB 0 (dmask n p 4 m) = 0 ↔ chg n p 4 m = false := by
  have hl := dmask_length n p 4 m
  have hchg : chg n p 4 m = false ↔ ∀ j, j < 4 → p + j < n → m j = 0 := by
    unfold chg
    rw [List.any_eq_false]
    constructor
    · intro h j hj hp
      have := h j (by simpa using hj)
      simpa [hp] using this
    · intro h j hj
      have hj' : j < 4 := by simpa using hj
      intro hc
      simp only [Bool.and_eq_true, decide_eq_true_eq] at hc
      exact hc.2 (h j hj' hc.1)
  rw [hchg]
  obtain ⟨q, hq, hpq⟩ : ∃ q, q + 4 ≤ n ∧ ∀ i, i < n → (i < q ∨ q + 4 ≤ i) → ¬ (p ≤ i ∧ i < p + 4) := by
    rcases Nat.lt_or_ge n (p + 4) with h | h
    · exact ⟨n - 4, by omega, fun i hi hz => by omega⟩
    · exact ⟨p, h, fun i hi hz => by omega⟩
  obtain ⟨a, b, c, d, hD, h0, h1, h2, h3⟩ := window (dmask n p 4 m) q (by rw [hl]; exact hq) (fun i hi hz => by
    rw [hl] at hi
    rw [dmask_get n p 4 m i hi, if_neg (hpq i hi hz)])
  constructor
  · intro h j hj hp
    rw [hD] at h
    obtain ⟨ea, eb, ec, ed⟩ := regB_window _ _ _ _ _ _ h
    have hw : ¬ (p + j < q ∨ q + 4 ≤ p + j) := fun hz => hpq (p + j) hp hz (by omega)
    have hg := dmask_get n p 4 m (p + j) hp
    rw [if_pos (by omega), show p + j - p = j by omega] at hg
    have : p + j = q ∨ p + j = q + 1 ∨ p + j = q + 2 ∨ p + j = q + 3 := by omega
    rcases this with e | e | e | e
    · rw [e, h0] at hg; cases hg; exact ea
    · rw [e, h1] at hg; cases hg; exact eb
    · rw [e, h2] at hg; cases hg; exact ec
    · rw [e, h3] at hg; cases hg; exact ed
  · intro h
    have : dmask n p 4 m = List.replicate n 0 := by
      apply List.ext_getElem?
      intro i
      by_cases hi : i < n
      · rw [dmask_get n p 4 m i hi, List.getElem?_replicate, if_pos hi]
        split
        · rename_i hw
          rw [h (i - p) (by omega) (by omega)]
        · rfl
      · rw [List.getElem?_eq_none (by rw [hl]; omega), List.getElem?_eq_none (by simp; omega)]
    rw [this, regB_zeros, st_zero]
/-- THE THEOREM: a sealed row is one still just if nothing has been changed -/
theorem burst_open (bs : List UInt8) (p : Nat) (m : Nat → UInt8) : (openB (burst (sealB bs) p 4 m)).isSome = !(chg (sealB bs).length p 4 m) := by
  have hn : 4 ≤ (sealB bs).length := by rw [sealB_length]; omega
  have e1 := regB_xor (sealB bs) (dmask (sealB bs).length p 4 m) 4294967295 0 (by rw [dmask_length])
  rw [Nat.xor_zero, sealB_residue] at e1
  rw [openB_eq, burst_length]
  have h2 := dmask_zero_iff (sealB bs).length p m hn
  have h3 : regB 4294967295 (burst (sealB bs) p 4 m) = residue ↔ regB 0 (dmask (sealB bs).length p 4 m) = 0 := by
    show regB 4294967295 (xors _ _) = _ ↔ _
    rw [e1]
    constructor
    · intro h
      have := congrArg (fun z => residue ^^^ z) h
      simpa only [← Nat.xor_assoc, Nat.xor_self, Nat.zero_xor] using this
    · intro h
      rw [h, Nat.xor_zero]
  cases hc : chg (sealB bs).length p 4 m with
  | false => rw [if_pos ⟨hn, h3.2 (h2.2 hc)⟩]; rfl
  | true =>
    rw [if_neg (fun h => by have := h2.1 (h3.1 h.2); rw [hc] at this; cases this)]
    rfl
end Go.Proofs.Ytgmbleaecfmfiaa.Given
