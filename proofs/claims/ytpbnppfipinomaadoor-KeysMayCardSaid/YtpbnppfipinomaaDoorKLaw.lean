/- THE PLAIN LAW OF keys: the interval from a beginning to its end holds just what begins so. No program. No condition. -/
import Derived.Test.YtpbnppfipinomaaDoorKRefEnd
namespace Go.Proofs.YtpbnppfipinomaaDoor.Given
open Go.RowKit Go.Shelf
theorem endL_nil : endL [] = none := rfl
theorem endL_cons (a : UInt8) (p : List UInt8) : endL (a :: p) = match endL p with | some e => some (a :: e) | none => if a = 255 then none else some [a + 1] := by
  induction hn : p.length generalizing p with
  | zero =>
    obtain rfl := List.eq_nil_of_length_eq_zero hn
    have := endL_all [] a
    rw [List.nil_append, endL_nil] at this
    rw [this, endL_nil]
    rfl
  | succ n ih =>
    obtain ⟨q, b, rfl⟩ : ∃ q b, p = q ++ [b] := by
      rcases List.eq_nil_or_concat p with rfl | ⟨q, b, rfl⟩
      · simp at hn
      · exact ⟨q, b, by simp⟩
    have hq : q.length = n := by simpa using hn
    rw [← List.cons_append, endL_all, endL_all]
    by_cases hb : b = 255
    · rw [if_pos hb, if_pos hb]
      exact ih q hq
    · rw [if_neg hb, if_neg hb]
      rfl
def within (k lo : List UInt8) (e : Option (List UInt8)) : Bool := !(Op.bytesLess k lo) && (!e.isSome || Op.bytesLess k (e.getD []))
theorem within_prefix (p k : List UInt8) : within k p (endL p) = p.isPrefixOf k := by
  induction p generalizing k with
  | nil => cases k <;> simp [within, endL_nil, Op.bytesLess]
  | cons a p ih =>
    cases k with
    | nil => simp [within, Op.bytesLess]
    | cons c k =>
      have h := ih k
      rw [endL_cons]
      unfold within at h ⊢
      by_cases hca : c = a
      · subst hca
        have hlt : ¬ c < c := UInt8.lt_irrefl c
        cases he : endL p with
        | some e =>
          rw [he] at h
          simp [Op.bytesLess, hlt, List.isPrefixOf] at h ⊢
          exact h
        | none =>
          rw [he] at h
          by_cases h2 : c = 255
          · simp [Op.bytesLess, List.isPrefixOf, h2] at h ⊢
            exact h
          · have h3 : c < c + 1 := by
              rw [UInt8.lt_iff_toNat_lt, UInt8.toNat_add]
              have h4 := c.toNat_lt
              have h5 : c.toNat ≠ 255 := fun e => h2 (UInt8.toNat_inj.mp (by simpa using e))
              simp
              omega
            simp [Op.bytesLess, hlt, List.isPrefixOf, h2, h3] at h ⊢
            exact h
      · have hac : (a == c) = false := by simpa using Ne.symm hca
        have hca2 : (c == a) = false := by simpa using hca
        by_cases hlt : c < a
        · simp [Op.bytesLess, hlt, List.isPrefixOf, hac]
        · cases he : endL p with
          | some e => simp [Op.bytesLess, hlt, List.isPrefixOf, hac, hca2]
          | none =>
            by_cases h2 : a = 255
            · exfalso
              rw [UInt8.lt_iff_toNat_lt] at hlt
              have h4 := c.toNat_lt
              subst h2
              exact hca (UInt8.toNat_inj.mp (by simp at hlt ⊢; omega))
            · have h3 : ¬ c < a + 1 := by
                rw [UInt8.lt_iff_toNat_lt, UInt8.toNat_add]
                rw [UInt8.lt_iff_toNat_lt] at hlt
                have h4 := a.toNat_lt
                have h5 : c.toNat ≠ a.toNat := fun e => hca (UInt8.toNat_inj.mp e)
                simp
                omega
              simp [Op.bytesLess, hlt, List.isPrefixOf, hac, hca2, h2, h3]
end Go.Proofs.YtpbnppfipinomaaDoor.Given
