/- THE STATEMENT OF THE LAW CrcMixes, over numbers and lists: the sums of three rows, and that of their exclusive or, come to nothing. No condition beyond the statement's own. -/
import Derived.Test.YtkocogakihoclaaPMx2
import Derived.Test.YtkocogakihoclaaCrcPure
namespace Go.Proofs.Ytkocogakihoclaa.Pure
open Go.RowKit Go.Proofs.Ytkocogakihoclaa.PM Go.Proofs.Ytkocogakihoclaa.PS Go.Proofs.Ytkocogakihoclaa.Given Go.Proofs.YtkocogakihoclaaW.PrintWords Go.Proofs.YtkocogakihoclaaW.PrintLast Go.Proofs.YtkocogakihoclaaW.PrintMore
def mix (A B C : List UInt8) (n : Nat) : List UInt8 := xors (xors (A.take n) (B.take n)) (C.take n)
theorem mix_length (A B C : List UInt8) (n : Nat) (ha : n ≤ A.length) (hb : n ≤ B.length) (hc : n ≤ C.length) : (mix A B C n).length = n := by
  simp only [mix, xors, List.length_zipWith, List.length_take]
  omega
theorem xors_snoc (a b : List UInt8) (x y : UInt8) (h : a.length = b.length) : xors (a ++ [x]) (b ++ [y]) = xors a b ++ [x ^^^ y] := by
  unfold xors
  rw [List.zipWith_append h]
  rfl
theorem mix_succ (A B C : List UInt8) (n : Nat) (ha : n < A.length) (hb : n < B.length) (hc : n < C.length) : mix A B C (n + 1) = mix A B C n ++ [A[n] ^^^ B[n] ^^^ C[n]] := by
  unfold mix
  rw [List.take_succ_eq_append_getElem ha, List.take_succ_eq_append_getElem hb, List.take_succ_eq_append_getElem hc, xors_snoc _ _ _ _ (by simp only [List.length_take]; omega), xors_snoc _ _ _ _ (by simp only [xors, List.length_zipWith, List.length_take]; omega)]
theorem more_xor (n : Nat) (h : n < 4294967296) : 4294967295 - n = 4294967295 ^^^ n := by
  have := not_xor n h
  have h2 := congrArg (fun z => n ^^^ z) this
  simp only [← Nat.xor_assoc, Nat.xor_self, Nat.zero_xor] at h2
  rw [h2, Nat.xor_comm]
theorem moreN_xor (bs : List UInt8) : moreN 0 bs = 4294967295 ^^^ regB 4294967295 bs := by
  rw [moreN_eq, Nat.sub_zero]
  exact more_xor _ (regB_lt bs _ (by omega))
theorem sums (a b c : List UInt8) (h1 : a.length = b.length) (h2 : a.length = c.length) : moreN 0 a ^^^ moreN 0 b ^^^ moreN 0 c = moreN 0 (xors (xors a b) c) := by
  have hl : (xors a b).length = c.length := by simp only [xors, List.length_zipWith]; omega
  rw [moreN_xor, moreN_xor, moreN_xor, moreN_xor]
  have e1 := regB_xor a b 4294967295 4294967295 h1
  have e2 := regB_xor (xors a b) c (4294967295 ^^^ 4294967295) 4294967295 hl
  rw [e1, Nat.xor_self, Nat.zero_xor] at e2
  rw [e2]
  generalize regB 4294967295 a = x
  generalize regB 4294967295 b = y
  generalize regB 4294967295 c = z
  generalize 4294967295 = f
  rw [Nat.xor_assoc f x (f ^^^ y), ← Nat.xor_assoc x f y, Nat.xor_comm x f, Nat.xor_assoc f x y, ← Nat.xor_assoc f f, Nat.xor_self, Nat.zero_xor, ← Nat.xor_assoc (x ^^^ y) f z, Nat.xor_comm (x ^^^ y) f, Nat.xor_assoc f (x ^^^ y) z]
theorem loop (A B C : List UInt8) (m : Nat) (ha : m ≤ A.length) (hb : m ≤ B.length) (hc : m ≤ C.length) (hl : A.length ≤ 140737488351232) : ∀ (d k n : Nat), m - n = d → n ≤ m → d < k →
    commonplacelaw15_CrcMixes.l0 k (nB A) (nB B) (nB C) (m : Int) (nB (mix A B C n)) (n : Int) = some true := by
  intro d
  induction d with
  | zero =>
    intro k n hd hn hk
    obtain ⟨k, rfl⟩ : ∃ q, k = q + 1 := ⟨k - 1, by omega⟩
    obtain rfl : n = m := by omega
    simp only [commonplacelaw15_CrcMixes.l0]
    have la := nB_length A
    have lb := nB_length B
    have lc := nB_length C
    have ta : (A.take n).length = n := by rw [List.length_take]; omega
    have tb : (B.take n).length = n := by rw [List.length_take]; omega
    have tc : (C.take n).length = n := by rw [List.length_take]; omega
    rw [if_neg (by omega), if_pos (by omega), if_pos (by omega), Int.toNat_natCast, ← nB_take, ← nB_take, ← nB_take]
    show ((own.f _).bind _) = _
    rw [own_f _ (by omega), Option.bind_some, sum_f _ (by omega), Option.bind_some, if_pos (by omega)]
    show ((own.f _).bind _) = _
    rw [own_f _ (by omega), Option.bind_some, sum_f _ (by omega), Option.bind_some, if_pos (by omega)]
    show ((own.f _).bind _) = _
    rw [own_f _ (by omega), Option.bind_some, sum_f _ (by omega), Option.bind_some, sum_f _ (by rw [mix_length A B C n ha hb hc]; omega), Option.bind_some]
    have x1 := u32_xor_nat (moreN 0 (A.take n)) (moreN 0 (B.take n)) (moreN_lt _ _) (moreN_lt _ _)
    have x2 := u32_xor_nat (moreN 0 (A.take n) ^^^ moreN 0 (B.take n)) (moreN 0 (C.take n)) (Nat.xor_lt_two_pow (n := 32) (moreN_lt _ _) (moreN_lt _ _)) (moreN_lt _ _)
    have e : moreN 0 (xors (xors (A.take n) (B.take n)) (C.take n)) = moreN 0 (mix A B C n) := rfl
    rw [x1, x2, sums _ _ _ (by omega) (by omega), e, if_pos rfl]
    rfl
  | succ d ih =>
    intro k n hd hn hk
    obtain ⟨k, rfl⟩ : ∃ q, k = q + 1 := ⟨k - 1, by omega⟩
    simp only [commonplacelaw15_CrcMixes.l0]
    have la := nB_length A
    have lb := nB_length B
    have lc := nB_length C
    have ua := A[n].toNat_lt
    have ub := B[n].toNat_lt
    have uc := C[n].toNat_lt
    rw [if_pos (by omega), if_pos (by omega), if_pos (by omega), if_pos (by omega), if_pos (by omega), if_pos (by rw [nB_length, mix_length A B C n (by omega) (by omega) (by omega)]; omega)]
    rw [rd_nat (nB A) n (by omega), rd_nat (nB B) n (by omega), rd_nat (nB C) n (by omega), wrap_succ n (by omega)]
    have e : nB (mix A B C n) ++ [Go.bits .xor .u8 (Go.bits .xor .u8 ((nB A)[n]'(by omega)) ((nB B)[n]'(by omega))) ((nB C)[n]'(by omega))] = nB (mix A B C (n + 1)) := by
      rw [mix_succ A B C n (by omega) (by omega) (by omega), nB_append]
      congr 1
      simp only [nB, List.getElem_map, List.map_cons, List.map_nil]
      rw [u8_xor_nat _ _ (by omega) (by omega), u8_xor_nat _ _ (Nat.xor_lt_two_pow (n := 8) (by omega) (by omega)) (by omega), UInt8.toNat_xor, UInt8.toNat_xor]
    rw [e]
    exact ih k (n + 1) (by omega) (by omega) (by omega)
theorem CrcMixes : commonplacelaw15_CrcMixes.Pure := by
  intro l0 l1 l2 _ h0 w0 _ h1 w1 _ h2 w2
  have e0 := nB_toB l0 (isB_of l0 w0)
  have e1 := nB_toB l1 (isB_of l1 w1)
  have e2 := nB_toB l2 (isB_of l2 w2)
  generalize toB l0 = A at e0
  generalize toB l1 = B at e1
  generalize toB l2 = C at e2
  subst e0 e1 e2
  have la := nB_length A
  have lb := nB_length B
  have lc := nB_length C
  obtain ⟨m, hm, ha, hb, hc⟩ : ∃ m : Nat, mn (mn ((nB A).length : Int) ((nB B).length : Int)) ((nB C).length : Int) = m ∧ m ≤ A.length ∧ m ≤ B.length ∧ m ≤ C.length := by
    unfold mn
    refine ⟨if C.length < (if B.length < A.length then B.length else A.length) then C.length else (if B.length < A.length then B.length else A.length), ?_, ?_, ?_, ?_⟩ <;> (repeat' split) <;> omega
  refine ⟨m + 1, ?_⟩
  unfold commonplacelaw15_CrcMixes.f
  rw [hm]
  have := loop A B C m ha hb hc (by omega) m (m + 1) 0 (by omega) (by omega) (by omega)
  simpa [mix, xors, nB] using this
end Go.Proofs.Ytkocogakihoclaa.Pure
