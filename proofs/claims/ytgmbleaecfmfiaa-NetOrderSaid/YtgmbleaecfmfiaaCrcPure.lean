/- WHAT crc's PRINTED FUNCTIONS, AND THE DOCUMENT's, COME TO, of bytes: one register, one sealed row. No condition beyond the sizes that each lemma says. -/
import Derived.Test.YtgmbleaecfmfiaaPSx1
import Derived.Test.YtgmbleaecfmfiaaCrcLaw
namespace Go.Proofs.Ytgmbleaecfmfiaa.Given
open Go.RowKit Go.Proofs.YtgmbleaecfmfiaaW.PrintWords Go.Proofs.YtgmbleaecfmfiaaW.PrintLast Go.Proofs.YtgmbleaecfmfiaaW.PrintMore Go.Proofs.Ytgmbleaecfmfiaa.PS
/-! what the printed functions come to, of bytes -/
theorem wrap_succ (n : Nat) (h : n < 9223372036854775807) : wrap64 ((n : Int) + 1) = ((n + 1 : Nat) : Int) := by unfold wrap64; omega
theorem rd_nat (l : List Int) (n : Nat) (h : n < l.length) : rd l (n : Int) = l[n] := by simp [rd, h]
theorem drop_iff (l0 l1 : List Int) (n : Nat) (h0 : n < l0.length) (h1 : n < l1.length) : (l0.drop n = l1.drop n) ↔ (l0[n] = l1[n] ∧ l0.drop (n + 1) = l1.drop (n + 1)) := by
  rw [List.drop_eq_getElem_cons h0, List.drop_eq_getElem_cons h1, List.cons.injEq]
theorem equal_loop (l0 l1 : List Int) (he : l0.length = l1.length) (hl : l0.length ≤ 9223372036854775807) : ∀ (d k n : Nat), l0.length - n = d → n ≤ l0.length → d < k →
    slices_Equal_byte_byte.l0 k l0 l1 (l0.length : Int) (n : Int) = some (decide (l0.drop n = l1.drop n)) := by
  intro d
  induction d with
  | zero =>
    intro k n hd hn hk
    obtain ⟨k, rfl⟩ : ∃ m, k = m + 1 := ⟨k - 1, by omega⟩
    simp only [slices_Equal_byte_byte.l0]
    rw [if_neg (by omega)]
    rw [List.drop_eq_nil_of_le (by omega), List.drop_eq_nil_of_le (by omega)]
    rfl
  | succ d ih =>
    intro k n hd hn hk
    obtain ⟨k, rfl⟩ : ∃ m, k = m + 1 := ⟨k - 1, by omega⟩
    simp only [slices_Equal_byte_byte.l0]
    rw [if_pos (by omega), if_pos (by omega), if_pos (by omega), if_pos (by omega), rd_nat l0 n (by omega), rd_nat l1 n (by omega), wrap_succ n (by omega)]
    have hi := drop_iff l0 l1 n (by omega) (by omega)
    by_cases e : l0[n] = l1[n]
    · rw [if_pos e, ih k (n + 1) (by omega) (by omega) (by omega)]
      congr 1
      rw [decide_eq_decide, hi]
      exact ⟨fun h => ⟨e, h⟩, fun h => h.2⟩
    · rw [if_neg e]
      congr 1
      symm
      rw [decide_eq_false_iff_not, hi]
      exact fun h => e h.1
theorem equal_f (k : Nat) (l0 l1 : List Int) (hl : l0.length ≤ 9223372036854775807) (hk : l0.length < k) : slices_Equal_byte_byte.f k l0 l1 = some (decide (l0 = l1)) := by
  unfold slices_Equal_byte_byte.f
  by_cases he : l0.length = l1.length
  · rw [if_pos (by omega)]
    have := equal_loop l0 l1 he hl l0.length k 0 (by omega) (by omega) hk
    simpa using this
  · rw [if_neg (by omega)]
    have : l0 ≠ l1 := fun e => he (by rw [e])
    simp [this]
def bitsR : Nat → Nat → Nat → Nat
  | 0, r, _ => r
  | n + 1, r, c => bitsR n (stepN (r ^^^ (c % 2))) (c / 2)
theorem bitsR_st (n r c : Nat) : bitsR n r c ^^^ (c / 2 ^ n) = st n (r ^^^ c) := by
  induction n generalizing r c with
  | zero => simp [bitsR, st]
  | succ n ih =>
    simp only [bitsR, st]
    rw [step_bit r c, ← ih, Nat.div_div_eq_div_mul, Nat.pow_succ, Nat.mul_comm 2]
theorem bitsR_upd (r c : Nat) (hc : c < 256) : bitsR 8 r c = updN r c := by
  have := bitsR_st 8 r c
  rw [Nat.div_eq_of_lt (show c < 2 ^ 8 by omega), Nat.xor_zero] at this
  exact this
theorem bitsR_lt (n : Nat) : ∀ r c, r < 4294967296 → bitsR n r c < 4294967296 := by
  induction n with
  | zero => exact fun r c h => h
  | succ n ih => exact fun r c h => ih _ _ (stepN_lt _ (Nat.xor_lt_two_pow (n := 32) h (by omega)))
theorem more_f (s : Nat) (bs : List UInt8) (hs : s < 4294967296) (hl : bs.length ≤ 140737488355328) : crc_More.f (s : Int) (nB bs) = some ((moreN s bs : Nat) : Int) := by
  unfold crc_More.f
  rw [if_pos ⟨by omega, by omega, isB_nB bs, by rw [nB_length]; exact hl⟩, toB_nB]
  rfl
theorem sum_f (bs : List UInt8) (hl : bs.length ≤ 140737488355328) : crc_Sum.f (nB bs) = some ((moreN 0 bs : Nat) : Int) := by
  unfold crc_Sum.f
  have := more_f 0 bs (by omega) hl
  rw [show ((0 : Nat) : Int) = 0 from rfl] at this
  rw [this]
  rfl
theorem nB_append (a b : List UInt8) : nB (a ++ b) = nB a ++ nB b := by simp [nB]
theorem nB_le4 (s : Nat) : nB (le4 s) = [(s : Int) % 256, (s : Int) / 256 % 256, (s : Int) / 65536 % 256, (s : Int) / 16777216 % 256] := by
  simp only [nB, le4, List.map_cons, List.map_nil, UInt8.toNat_ofNat']
  congr 1
  · omega
  congr 1
  · omega
  congr 1
  · omega
  congr 1
  omega
theorem nB_inj {a b : List UInt8} (h : nB a = nB b) : a = b := by
  have := congrArg toB h
  rwa [toB_nB, toB_nB] at this
theorem own_f (bs : List UInt8) (hl : bs.length ≤ 140737488355328) : own.f (nB bs) = some (nB bs) := by
  unfold own.f
  rw [if_pos (by rw [nB_length]; exact hl)]
theorem seal_f (bs : List UInt8) (hl : bs.length + 4 < 140737488355328) : crc_Seal.f (nB bs) = some (nB (sealB bs)) := by
  unfold crc_Seal.f
  rw [sum_f bs (by omega), Option.bind_some]
  show ((clone.f (nB bs)).bind _) = _
  unfold clone.f
  rw [if_pos (by rw [nB_length]; omega), Option.bind_some, Option.bind_some, if_pos (by rw [nB_length]; simp; omega), ← nB_le4, sealB, nB_append]
theorem nB_take (n : Nat) (bs : List UInt8) : nB (bs.take n) = (nB bs).take n := by simp [nB, List.map_take]
theorem open_f (k : Nat) (bs : List UInt8) (hl : bs.length < 140737488355328) (hk : bs.length < k) :
    crc_Open.f k (nB bs) = some (match openB bs with | some p => (nB p, true) | none => ([], false)) := by
  unfold crc_Open.f
  rw [nB_length]
  by_cases h4 : bs.length < 4
  · rw [if_pos (by omega)]
    have : openB bs = none := by unfold openB; rw [if_neg (by omega)]
    rw [this]
  · have hw : wrap64 ((bs.length : Int) - 4) = ((bs.length - 4 : Nat) : Int) := by unfold wrap64; omega
    rw [if_neg (by omega), hw, if_pos (by omega), if_pos (by omega), Int.toNat_natCast, ← nB_take]
    have hlt : (bs.take (bs.length - 4)).length = bs.length - 4 := by rw [List.length_take]; omega
    rw [seal_f _ (by omega), Option.bind_some, equal_f k _ _ (by rw [nB_length, sealB_length]; omega) (by rw [nB_length, sealB_length]; omega), Option.bind_some]
    by_cases e : sealB (bs.take (bs.length - 4)) = bs
    · have : openB bs = some (bs.take (bs.length - 4)) := by unfold openB; rw [if_pos ⟨by omega, e⟩]
      rw [this, decide_eq_true (congrArg nB e), if_pos rfl]
      show ((clone.f _).bind _) = _
      unfold clone.f
      rw [if_pos (by rw [nB_length]; omega), Option.bind_some]
    · have : openB bs = none := by unfold openB; rw [if_neg (fun h => e h.2)]
      rw [this, decide_eq_false (fun h => e (nB_inj h)), if_neg (by decide)]
theorem isB_of (l : List Int) (h : ∀ x ∈ l, (Lit.int .u8 x).wf = true) : isB l = true := by
  unfold isB
  rw [List.all_eq_true]
  intro x hx
  have := h x hx
  simp [Lit.wf, IntKind.min, IntKind.max, IntKind.signed, IntKind.bits] at this
  simp
  omega
theorem u32_of (a : Int) (h : (Lit.int .u32 a).wf = true) : 0 ≤ a ∧ a < 4294967296 := by
  simp [Lit.wf, IntKind.min, IntKind.max, IntKind.signed, IntKind.bits] at h
  omega
end Go.Proofs.Ytgmbleaecfmfiaa.Given
