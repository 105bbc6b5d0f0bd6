/- WHAT crc's PRINTED FUNCTIONS, AND THE DOCUMENT's, COME TO, of bytes: one register, one sealed row. No condition beyond the sizes that each lemma says. -/
import Derived.Test.YtfffkmpbkaakgaaPSx1
import Derived.Test.YtfffkmpbkaakgaaCrcLaw
namespace Go.Proofs.Ytfffkmpbkaakgaa.Given
open Go.RowKit Go.Proofs.YtfffkmpbkaakgaaW.PrintWords Go.Proofs.YtfffkmpbkaakgaaW.PrintLast Go.Proofs.YtfffkmpbkaakgaaW.PrintMore Go.Proofs.Ytfffkmpbkaakgaa.PS
/-! what the printed functions come to, of bytes -/
theorem wrap_succ (n : Nat) (h : n < 9223372036854775807) : wrap64 ((n : Int) + 1) = ((n + 1 : Nat) : Int) := by unfold wrap64; omega
theorem rd_nat (l : List Int) (n : Nat) (h : n < l.length) : rd l (n : Int) = l[n] := by simp [rd, h]
theorem drop_iff (l0 l1 : List Int) (n : Nat) (h0 : n < l0.length) (h1 : n < l1.length) : (l0.drop n = l1.drop n) ↔ (l0[n] = l1[n] ∧ l0.drop (n + 1) = l1.drop (n + 1)) := by
  rw [List.drop_eq_getElem_cons h0, List.drop_eq_getElem_cons h1, List.cons.injEq]
theorem same_loop (l0 l1 : List Int) (he : l0.length = l1.length) (hl : l0.length ≤ 9223372036854775807) : ∀ (d k n : Nat), l0.length - n = d → n ≤ l0.length → d < k →
    commonplaceref15_Same.l0 k l0 l1 (n : Int) = some (decide (l0.drop n = l1.drop n)) := by
  intro d
  induction d with
  | zero =>
    intro k n hd hn hk
    obtain ⟨k, rfl⟩ : ∃ m, k = m + 1 := ⟨k - 1, by omega⟩
    simp only [commonplaceref15_Same.l0]
    rw [if_neg (by omega)]
    rw [List.drop_eq_nil_of_le (by omega), List.drop_eq_nil_of_le (by omega)]
    rfl
  | succ d ih =>
    intro k n hd hn hk
    obtain ⟨k, rfl⟩ : ∃ m, k = m + 1 := ⟨k - 1, by omega⟩
    simp only [commonplaceref15_Same.l0]
    rw [if_pos (by omega), if_pos (by omega), if_pos (by omega), rd_nat l0 n (by omega), rd_nat l1 n (by omega), wrap_succ n (by omega)]
    have hi := drop_iff l0 l1 n (by omega) (by omega)
    by_cases e : l0[n] = l1[n]
    · rw [if_pos e, ih k (n + 1) (by omega) (by omega) (by omega)]
      congr 1
      rw [decide_eq_decide, hi]
      exact ⟨fun h => ⟨e, h⟩, fun h => h.2⟩
    · rw [if_neg e]
      congr 1
      symm
      rw [decide_eq_false_iff_not, hi]
      exact fun h => e h.1
theorem same_f (k : Nat) (l0 l1 : List Int) (hl : l0.length ≤ 9223372036854775807) (hk : l0.length < k) : commonplaceref15_Same.f k l0 l1 = some (decide (l0 = l1)) := by
  unfold commonplaceref15_Same.f
  by_cases he : l0.length = l1.length
  · rw [if_pos (by omega)]
    have := same_loop l0 l1 he hl l0.length k 0 (by omega) (by omega) hk
    simpa using this
  · rw [if_neg (by omega)]
    have : l0 ≠ l1 := fun e => he (by rw [e])
    simp [this]
theorem equal_loop (l0 l1 : List Int) (he : l0.length = l1.length) (hl : l0.length ≤ 9223372036854775807) : ∀ (d k n : Nat), l0.length - n = d → n ≤ l0.length → d < k →
    slices_Equal_byte_byte.l0 k l0 l1 (l0.length : Int) (n : Int) = some (decide (l0.drop n = l1.drop n)) := by
  intro d
  induction d with
  | zero =>
    intro k n hd hn hk
    obtain ⟨k, rfl⟩ : ∃ m, k = m + 1 := ⟨k - 1, by omega⟩
    simp only [slices_Equal_byte_byte.l0]
    rw [if_neg (by omega)]
    rw [List.drop_eq_nil_of_le (by omega), List.drop_eq_nil_of_le (by omega)]
    rfl
  | succ d ih =>
    intro k n hd hn hk
    obtain ⟨k, rfl⟩ : ∃ m, k = m + 1 := ⟨k - 1, by omega⟩
    simp only [slices_Equal_byte_byte.l0]
    rw [if_pos (by omega), if_pos (by omega), if_pos (by omega), if_pos (by omega), rd_nat l0 n (by omega), rd_nat l1 n (by omega), wrap_succ n (by omega)]
    have hi := drop_iff l0 l1 n (by omega) (by omega)
    by_cases e : l0[n] = l1[n]
    · rw [if_pos e, ih k (n + 1) (by omega) (by omega) (by omega)]
      congr 1
      rw [decide_eq_decide, hi]
      exact ⟨fun h => ⟨e, h⟩, fun h => h.2⟩
    · rw [if_neg e]
      congr 1
      symm
      rw [decide_eq_false_iff_not, hi]
      exact fun h => e h.1
theorem equal_f (k : Nat) (l0 l1 : List Int) (hl : l0.length ≤ 9223372036854775807) (hk : l0.length < k) : slices_Equal_byte_byte.f k l0 l1 = some (decide (l0 = l1)) := by
  unfold slices_Equal_byte_byte.f
  by_cases he : l0.length = l1.length
  · rw [if_pos (by omega)]
    have := equal_loop l0 l1 he hl l0.length k 0 (by omega) (by omega) hk
    simpa using this
  · rw [if_neg (by omega)]
    have : l0 ≠ l1 := fun e => he (by rw [e])
    simp [this]
/-- the document's register -/
theorem go1_f (r b : Nat) (hr : r < 4294967296) (hb : b < 2) : commonplaceref15_go1.f (r : Int) (b : Int) = some ((stepN (r ^^^ b) : Nat) : Int) := by
  unfold commonplaceref15_go1.f
  have e1 : Int.tmod (r : Int) 2 = ((r % 2 : Nat) : Int) := by rw [Int.tmod_eq_emod_of_nonneg (by omega)]; omega
  have e2 : Int.tdiv (r : Int) 2 % 4294967296 = ((r / 2 : Nat) : Int) := by rw [Int.tdiv_eq_ediv_of_nonneg (by omega)]; omega
  rw [e1, e2]
  have h1 := xor_mod2 r b
  have h2 := xor_div2 r b
  have h3 : b / 2 = 0 := by omega
  rw [h3, Nat.xor_zero] at h2
  unfold stepN
  rw [h2]
  by_cases e : r % 2 = b
  · rw [if_pos (by omega), if_neg (by omega)]
  · rw [if_neg (by omega), if_pos (by omega)]
    have := u32_xor_nat (r / 2) 3988292384 (by omega) (by omega)
    exact congrArg some this
def bitsR : Nat → Nat → Nat → Nat
  | 0, r, _ => r
  | n + 1, r, c => bitsR n (stepN (r ^^^ (c % 2))) (c / 2)
theorem bitsR_st (n r c : Nat) : bitsR n r c ^^^ (c / 2 ^ n) = st n (r ^^^ c) := by
  induction n generalizing r c with
  | zero => simp [bitsR, st]
  | succ n ih =>
    simp only [bitsR, st]
    rw [step_bit r c, ← ih, Nat.div_div_eq_div_mul, Nat.pow_succ, Nat.mul_comm 2]
theorem bitsR_upd (r c : Nat) (hc : c < 256) : bitsR 8 r c = updN r c := by
  have := bitsR_st 8 r c
  rw [Nat.div_eq_of_lt (show c < 2 ^ 8 by omega), Nat.xor_zero] at this
  exact this
theorem bitsR_lt (n : Nat) : ∀ r c, r < 4294967296 → bitsR n r c < 4294967296 := by
  induction n with
  | zero => exact fun r c h => h
  | succ n ih => exact fun r c h => ih _ _ (stepN_lt _ (Nat.xor_lt_two_pow (n := 32) h (by omega)))
theorem more_l1 (x1 : List Int) (x6 : Int) : ∀ (n k r c j : Nat), n + j = 8 → r < 4294967296 → c < 4294967296 →
    commonplaceref15_More.l1 (k + n + 1) x1 (r : Int) x6 (c : Int) (j : Int) = commonplaceref15_More.l0 k x1 ((bitsR n r c : Nat) : Int) (wrap64 (x6 + 1)) := by
  intro n
  induction n with
  | zero =>
    intro k r c j hj hr hc
    simp only [commonplaceref15_More.l1]
    rw [if_neg (by omega)]
    rfl
  | succ n ih =>
    intro k r c j hj hr hc
    rw [show k + (n + 1) + 1 = (k + n + 1) + 1 by omega]
    simp only [commonplaceref15_More.l1]
    rw [if_pos (by omega)]
    have e1 : Int.tmod (c : Int) 2 = ((c % 2 : Nat) : Int) := by rw [Int.tmod_eq_emod_of_nonneg (by omega)]; omega
    have e2 : Int.tdiv (c : Int) 2 % 4294967296 = ((c / 2 : Nat) : Int) := by rw [Int.tdiv_eq_ediv_of_nonneg (by omega)]; omega
    rw [e1, e2, go1_f r (c % 2) hr (by omega), Option.bind_some, wrap_succ j (by omega)]
    exact ih k _ _ (j + 1) (by omega) (stepN_lt _ (Nat.xor_lt_two_pow (n := 32) hr (by omega))) (by omega)
theorem more_l0 (bs : List UInt8) (hl : bs.length ≤ 9223372036854775807) : ∀ (d k n r : Nat), bs.length - n = d → n ≤ bs.length → 10 * d < k → r < 4294967296 →
    commonplaceref15_More.l0 k (nB bs) (r : Int) (n : Int) = some ((4294967295 - regB r (bs.drop n) : Nat) : Int) := by
  intro d
  induction d with
  | zero =>
    intro k n r hd hn hk hr
    obtain ⟨k, rfl⟩ : ∃ m, k = m + 1 := ⟨k - 1, by omega⟩
    simp only [commonplaceref15_More.l0]
    rw [if_neg (by rw [nB_length]; omega), List.drop_eq_nil_of_le (by omega)]
    simp only [regB, List.foldl_nil]
    congr 1
    omega
  | succ d ih =>
    intro k n r hd hn hk hr
    obtain ⟨k, rfl⟩ : ∃ m, k = m + 8 + 1 + 1 := ⟨k - 10, by omega⟩
    simp only [commonplaceref15_More.l0]
    have hlt : n < bs.length := by omega
    have hu := bs[n].toNat_lt
    rw [if_pos (by rw [nB_length]; omega), if_pos (by omega), rd_nat (nB bs) n (by rw [nB_length]; omega)]
    have e : (nB bs)[n]'(by rw [nB_length]; omega) % 4294967296 = ((bs[n].toNat : Nat) : Int) := by
      simp only [nB, List.getElem_map]
      omega
    rw [e]
    have := more_l1 (nB bs) (n : Int) 8 k r bs[n].toNat 0 (by omega) hr (by omega)
    rw [show ((0 : Nat) : Int) = 0 from rfl] at this
    rw [this, bitsR_upd _ _ hu, wrap_succ n (by omega)]
    rw [ih k (n + 1) _ (by omega) (by omega) (by omega) (updN_lt _ _ hr hu)]
    conv => rhs; rw [List.drop_eq_getElem_cons hlt]
    rfl
theorem refMore_f (k s : Nat) (bs : List UInt8) (hs : s < 4294967296) (hl : bs.length ≤ 9223372036854775807) (hk : 10 * bs.length < k) : commonplaceref15_More.f k (s : Int) (nB bs) = some ((moreN s bs : Nat) : Int) := by
  unfold commonplaceref15_More.f
  have e : (4294967295 - (s : Int)) % 4294967296 = ((4294967295 - s : Nat) : Int) := by omega
  rw [e]
  have := more_l0 bs hl bs.length k 0 (4294967295 - s) (by omega) (by omega) hk (by omega)
  rw [List.drop_zero, ← moreN_eq] at this
  exact this
theorem refSum_f (k : Nat) (bs : List UInt8) (hl : bs.length ≤ 9223372036854775807) (hk : 10 * bs.length < k) : commonplaceref15_Sum.f k (nB bs) = some ((moreN 0 bs : Nat) : Int) := by
  unfold commonplaceref15_Sum.f
  have := refMore_f k 0 bs (by omega) hl hk
  rw [show ((0 : Nat) : Int) = 0 from rfl] at this
  rw [this]
  rfl
theorem more_f (s : Nat) (bs : List UInt8) (hs : s < 4294967296) (hl : bs.length ≤ 140737488355328) : crc_More.f (s : Int) (nB bs) = some ((moreN s bs : Nat) : Int) := by
  unfold crc_More.f
  rw [if_pos ⟨by omega, by omega, isB_nB bs, by rw [nB_length]; exact hl⟩, toB_nB]
  rfl
theorem sum_f (bs : List UInt8) (hl : bs.length ≤ 140737488355328) : crc_Sum.f (nB bs) = some ((moreN 0 bs : Nat) : Int) := by
  unfold crc_Sum.f
  have := more_f 0 bs (by omega) hl
  rw [show ((0 : Nat) : Int) = 0 from rfl] at this
  rw [this]
  rfl
theorem nB_append (a b : List UInt8) : nB (a ++ b) = nB a ++ nB b := by simp [nB]
theorem nB_le4 (s : Nat) : nB (le4 s) = [(s : Int) % 256, (s : Int) / 256 % 256, (s : Int) / 65536 % 256, (s : Int) / 16777216 % 256] := by
  simp only [nB, le4, List.map_cons, List.map_nil, UInt8.toNat_ofNat']
  congr 1
  · omega
  congr 1
  · omega
  congr 1
  · omega
  congr 1
  omega
theorem nB_inj {a b : List UInt8} (h : nB a = nB b) : a = b := by
  have := congrArg toB h
  rwa [toB_nB, toB_nB] at this
theorem own_f (bs : List UInt8) (hl : bs.length ≤ 140737488355328) : own.f (nB bs) = some (nB bs) := by
  unfold own.f
  rw [if_pos (by rw [nB_length]; exact hl)]
theorem seal_f (bs : List UInt8) (hl : bs.length + 4 < 140737488355328) : crc_Seal.f (nB bs) = some (nB (sealB bs)) := by
  unfold crc_Seal.f
  rw [sum_f bs (by omega), Option.bind_some]
  show ((clone.f (nB bs)).bind _) = _
  unfold clone.f
  rw [if_pos (by rw [nB_length]; omega), Option.bind_some, Option.bind_some, if_pos (by rw [nB_length]; simp; omega), ← nB_le4, sealB, nB_append]
theorem refSeal_step (k : Nat) (l : List Int) (s n : Nat) (hs : s < 4294967296) (hn : n < 4) (hl : l.length < 140737488355328) :
    commonplaceref15_Seal.l0 (k + 1) l (s : Int) (n : Int) = commonplaceref15_Seal.l0 k (l ++ [((s % 256 : Nat) : Int)]) ((s / 256 : Nat) : Int) ((n + 1 : Nat) : Int) := by
  have e1 : Int.tmod (s : Int) 256 % 256 = ((s % 256 : Nat) : Int) := by rw [Int.tmod_eq_emod_of_nonneg (by omega)]; omega
  have e2 : Int.tdiv (s : Int) 256 % 4294967296 = ((s / 256 : Nat) : Int) := by rw [Int.tdiv_eq_ediv_of_nonneg (by omega)]; omega
  simp only [commonplaceref15_Seal.l0]
  rw [if_pos (by omega), if_pos hl, e1, e2, wrap_succ n (by omega)]
theorem refSeal_loop (k : Nat) (l : List Int) (s : Nat) (hs : s < 4294967296) (hl : l.length + 4 < 140737488355328) (hk : 4 < k) :
    commonplaceref15_Seal.l0 k l (s : Int) 0 = some (l ++ nB (le4 s)) := by
  obtain ⟨k, rfl⟩ : ∃ m, k = m + 1 + 1 + 1 + 1 + 1 := ⟨k - 5, by omega⟩
  rw [nB_le4 s, show (0 : Int) = ((0 : Nat) : Int) from rfl, refSeal_step _ _ s 0 hs (by omega) (by omega), refSeal_step _ _ _ 1 (by omega) (by omega) (by simp; omega), refSeal_step _ _ _ 2 (by omega) (by omega) (by simp; omega), refSeal_step _ _ _ 3 (by omega) (by omega) (by simp; omega)]
  simp only [commonplaceref15_Seal.l0]
  rw [if_neg (by omega)]
  simp only [List.append_assoc, List.cons_append, List.nil_append]
  have q0 : ((s % 256 : Nat) : Int) = (s : Int) % 256 := by omega
  have q1 : ((s / 256 % 256 : Nat) : Int) = (s : Int) / 256 % 256 := by omega
  have q2 : ((s / 256 / 256 % 256 : Nat) : Int) = (s : Int) / 65536 % 256 := by omega
  have q3 : ((s / 256 / 256 / 256 % 256 : Nat) : Int) = (s : Int) / 16777216 % 256 := by omega
  rw [q0, q1, q2, q3]
theorem refSeal_f (k : Nat) (bs : List UInt8) (hl : bs.length + 4 < 140737488355328) (hk : 10 * bs.length + 5 < k) : commonplaceref15_Seal.f k (nB bs) = some (nB (sealB bs)) := by
  unfold commonplaceref15_Seal.f
  rw [if_pos (by rw [nB_length]; simp; omega), refSum_f k bs (by omega) (by omega), Option.bind_some, List.nil_append, refSeal_loop k _ _ (moreN_lt 0 bs) (by rw [nB_length]; omega) (by omega), sealB, nB_append]
theorem nB_take (n : Nat) (bs : List UInt8) : nB (bs.take n) = (nB bs).take n := by simp [nB, List.map_take]
theorem open_f (k : Nat) (bs : List UInt8) (hl : bs.length < 140737488355328) (hk : bs.length < k) :
    crc_Open.f k (nB bs) = some (match openB bs with | some p => (nB p, true) | none => ([], false)) := by
  unfold crc_Open.f
  rw [nB_length]
  by_cases h4 : bs.length < 4
  · rw [if_pos (by omega)]
    have : openB bs = none := by unfold openB; rw [if_neg (by omega)]
    rw [this]
  · have hw : wrap64 ((bs.length : Int) - 4) = ((bs.length - 4 : Nat) : Int) := by unfold wrap64; omega
    rw [if_neg (by omega), hw, if_pos (by omega), if_pos (by omega), Int.toNat_natCast, ← nB_take]
    have hlt : (bs.take (bs.length - 4)).length = bs.length - 4 := by rw [List.length_take]; omega
    rw [seal_f _ (by omega), Option.bind_some, equal_f k _ _ (by rw [nB_length, sealB_length]; omega) (by rw [nB_length, sealB_length]; omega), Option.bind_some]
    by_cases e : sealB (bs.take (bs.length - 4)) = bs
    · have : openB bs = some (bs.take (bs.length - 4)) := by unfold openB; rw [if_pos ⟨by omega, e⟩]
      rw [this, decide_eq_true (congrArg nB e), if_pos rfl]
      show ((clone.f _).bind _) = _
      unfold clone.f
      rw [if_pos (by rw [nB_length]; omega), Option.bind_some]
    · have : openB bs = none := by unfold openB; rw [if_neg (fun h => e h.2)]
      rw [this, decide_eq_false (fun h => e (nB_inj h)), if_neg (by decide)]
theorem isB_of (l : List Int) (h : ∀ x ∈ l, (Lit.int .u8 x).wf = true) : isB l = true := by
  unfold isB
  rw [List.all_eq_true]
  intro x hx
  have := h x hx
  simp [Lit.wf, IntKind.min, IntKind.max, IntKind.signed, IntKind.bits] at this
  simp
  omega
theorem u32_of (a : Int) (h : (Lit.int .u32 a).wf = true) : 0 ≤ a ∧ a < 4294967296 := by
  simp [Lit.wf, IntKind.min, IntKind.max, IntKind.signed, IntKind.bits] at h
  omega
end Go.Proofs.Ytfffkmpbkaakgaa.Given
