/- THE PLAIN LAW OF crc: the register is linear, a step loses nothing; which rows are sealed ones. No program. No condition. -/
import Derived.Test.YtgmbleaecfmfiaaGiven1
namespace Go.Proofs.Ytgmbleaecfmfiaa.Given
/-! the register, in numbers alone -/
theorem xor_div2 (a b : Nat) : (a ^^^ b) / 2 = a / 2 ^^^ b / 2 := Nat.xor_div_two
theorem xor_mod2 (a b : Nat) : (a ^^^ b) % 2 = (a % 2 + b % 2) % 2 := by
  have := Nat.xor_mod_two_eq_one (a := a) (b := b)
  have h1 := Nat.mod_two_eq_zero_or_one a
  have h2 := Nat.mod_two_eq_zero_or_one b
  have h3 := Nat.mod_two_eq_zero_or_one (a ^^^ b)
  omega
theorem stepN_xor (a b : Nat) : stepN (a ^^^ b) = stepN a ^^^ stepN b := by
  unfold stepN
  rw [xor_div2, xor_mod2]
  have h1 := Nat.mod_two_eq_zero_or_one a
  have h2 := Nat.mod_two_eq_zero_or_one b
  generalize a / 2 = x
  generalize b / 2 = y
  generalize (3988292384 : Nat) = p
  rcases h1 with h1 | h1 <;> rcases h2 with h2 | h2 <;> simp only [h1, h2, Nat.reduceAdd, Nat.reduceMod, if_true, if_false, Nat.zero_ne_one]
  · rw [Nat.xor_assoc]
  · rw [Nat.xor_assoc, Nat.xor_comm y p, ← Nat.xor_assoc]
  · rw [Nat.xor_assoc x p, Nat.xor_comm y p, ← Nat.xor_assoc p p y, Nat.xor_self, Nat.zero_xor]
theorem xor_zero_eq {a b : Nat} (h : a ^^^ b = 0) : a = b := by
  have := congrArg (· ^^^ b) h
  simpa [Nat.xor_assoc] using this
theorem stepN_zero : stepN 0 = 0 := rfl
def st : Nat → Nat → Nat
  | 0, y => y
  | n + 1, y => st n (stepN y)
theorem st_xor (n a b : Nat) : st n (a ^^^ b) = st n a ^^^ st n b := by
  induction n generalizing a b with
  | zero => rfl
  | succ n ih => simp only [st, stepN_xor, ih]
theorem st_zero (n : Nat) : st n 0 = 0 := by
  induction n with
  | zero => rfl
  | succ n ih => simp only [st, stepN_zero, ih]
theorem st_add (m n y : Nat) : st (m + n) y = st n (st m y) := by
  induction m generalizing y with
  | zero => simp [st]
  | succ m ih => rw [Nat.succ_add]; simp only [st]; exact ih _
theorem stepN_split (y : Nat) : stepN y = stepN (y % 2) ^^^ (y / 2) := by
  unfold stepN
  rcases Nat.mod_two_eq_zero_or_one y with h | h
  · rw [h]; simp
  · rw [h]; simp [Nat.xor_comm]
theorem st_split (n y : Nat) : st n y = st n (y % 2 ^ n) ^^^ (y / 2 ^ n) := by
  induction n generalizing y with
  | zero => simp [st, Nat.mod_one]
  | succ n ih =>
    simp only [st]
    rw [stepN_split y, st_xor, ih (y / 2), stepN_split (y % 2 ^ (n + 1)), st_xor]
    have h1 : y % 2 ^ (n + 1) % 2 = y % 2 := Nat.mod_mod_of_dvd _ ⟨2 ^ n, by rw [Nat.pow_succ, Nat.mul_comm]⟩
    have h2 : y % 2 ^ (n + 1) / 2 = y / 2 % 2 ^ n := by rw [Nat.pow_succ, Nat.mul_comm, Nat.mod_mul_right_div_self]
    have h3 : y / 2 / 2 ^ n = y / 2 ^ (n + 1) := by rw [Nat.div_div_eq_div_mul, Nat.pow_succ, Nat.mul_comm]
    rw [h1, h2, h3, Nat.xor_assoc]
theorem xor_div16 (r h : Nat) (hh : h < 16) : (r ^^^ h) / 16 = r / 16 := by
  have := Nat.xor_div_two_pow (a := r) (b := h) (n := 4)
  rw [show (2 ^ 4 : Nat) = 16 from rfl] at this
  rw [this, Nat.div_eq_of_lt hh, Nat.xor_zero]
theorem nibN_st (r h : Nat) (hh : h < 16) : nibN r h = st 4 (r ^^^ h) := by
  rw [st_split 4, show (2 ^ 4 : Nat) = 16 from rfl, xor_div16 r h hh, Nat.xor_comm]
  rfl
/-- a byte -/
def updN (r c : Nat) : Nat := st 8 (r ^^^ c)
theorem split16 (c : Nat) : c = (c % 16) ^^^ (16 * (c / 16)) := by
  apply Nat.eq_of_testBit_eq
  intro i
  rw [Nat.testBit_xor, show (16 : Nat) = 2 ^ 4 from rfl, Nat.testBit_mod_two_pow, Nat.testBit_two_pow_mul, Nat.testBit_div_two_pow]
  by_cases hi : i < 4
  · simp [hi, Nat.not_le.2 hi]
  · have : 4 ≤ i := by omega
    simp [hi, this]
theorem nibs_upd (r c : Nat) : nibN (nibN r (c % 16)) (c / 16) = if c < 256 then updN r c else nibN (nibN r (c % 16)) (c / 16) := by
  split
  · rename_i h
    rw [nibN_st _ _ (by omega), nibN_st _ _ (by omega), updN, show (8 : Nat) = 4 + 4 from rfl, st_add]
    congr 1
    conv => rhs; rw [split16 c, ← Nat.xor_assoc, st_xor]
    congr 1
    rw [st_split 4, show (2 ^ 4 : Nat) = 16 from rfl, Nat.mul_mod_right, st_zero, Nat.zero_xor, Nat.mul_div_cancel_left _ (by omega)]
  · rfl
def regB (r : Nat) (bs : List UInt8) : Nat := bs.foldl (fun r c => updN r c.toNat) r
theorem regN_nibs (bs : List UInt8) : ∀ r, regN r (nibs bs) = regB r bs := by
  induction bs with
  | nil => exact fun r => rfl
  | cons c bs ih =>
    intro r
    have h := nibs_upd r c.toNat
    rw [if_pos c.toNat_lt] at h
    have e : regN r (nibs (c :: bs)) = regN (nibN (nibN r (lo c).val) (hi c).val) (nibs bs) := rfl
    rw [e, ih]
    show regB (nibN (nibN r (c.toNat % 16)) (c.toNat / 16)) bs = _
    rw [h]
    rfl
theorem moreN_eq (s : Nat) (bs : List UInt8) : moreN s bs = 4294967295 - regB (4294967295 - s) bs := by rw [moreN, regN_nibs]
theorem stepN_lt' (r : Nat) (h : r < 4294967296) : stepN r < 4294967296 := stepN_lt r h
theorem st_lt (n r : Nat) (h : r < 4294967296) : st n r < 4294967296 := by
  induction n generalizing r with
  | zero => exact h
  | succ n ih => exact ih _ (stepN_lt r h)
theorem updN_lt (r c : Nat) (h : r < 4294967296) (hc : c < 256) : updN r c < 4294967296 := st_lt _ _ (Nat.xor_lt_two_pow (n := 32) h (by omega))
theorem regB_lt (bs : List UInt8) : ∀ r, r < 4294967296 → regB r bs < 4294967296 := by
  induction bs with
  | nil => exact fun r h => h
  | cons c bs ih => exact fun r h => ih _ (updN_lt _ _ h c.toNat_lt)
theorem moreN_lt (s : Nat) (bs : List UInt8) : moreN s bs < 4294967296 := by unfold moreN; omega
theorem regB_append (r : Nat) (a b : List UInt8) : regB r (a ++ b) = regB (regB r a) b := by simp [regB]
theorem moreN_append (s : Nat) (a b : List UInt8) : moreN s (a ++ b) = moreN (moreN s a) b := by
  rw [moreN_eq, moreN_eq, moreN_eq, regB_append]
  have := regB_lt a (4294967295 - s) (by omega)
  congr 2
  omega
theorem moreN_nil (s : Nat) (h : s < 4294967296) : moreN s [] = s := by rw [moreN_eq]; simp only [regB, List.foldl_nil]; omega
/-- a step with a bit: what the document's register does -/
theorem step_bit (r x : Nat) : stepN (r ^^^ x) = stepN (r ^^^ (x % 2)) ^^^ (x / 2) := by
  rw [stepN_xor, stepN_xor, stepN_split x, Nat.xor_assoc]
/-- the sealed bytes -/
def le4 (s : Nat) : List UInt8 := [UInt8.ofNat (s % 256), UInt8.ofNat (s / 256 % 256), UInt8.ofNat (s / 65536 % 256), UInt8.ofNat (s / 16777216 % 256)]
def sealB (bs : List UInt8) : List UInt8 := bs ++ le4 (moreN 0 bs)
theorem sealB_length (bs : List UInt8) : (sealB bs).length = bs.length + 4 := by simp [sealB, le4]
def openB (bs : List UInt8) : Option (List UInt8) := if 4 ≤ bs.length ∧ sealB (bs.take (bs.length - 4)) = bs then some (bs.take (bs.length - 4)) else none
/-! exclusive or of rows of bytes -/
def xors (a b : List UInt8) : List UInt8 := List.zipWith (· ^^^ ·) a b
theorem updN_xor (r s c d : Nat) : updN (r ^^^ s) (c ^^^ d) = updN r c ^^^ updN s d := by
  unfold updN
  rw [← st_xor]
  congr 1
  rw [Nat.xor_assoc, Nat.xor_assoc, ← Nat.xor_assoc s c d, Nat.xor_comm s c, Nat.xor_assoc c s d]
theorem regB_xor : ∀ (a b : List UInt8) (r s : Nat), a.length = b.length → regB (r ^^^ s) (xors a b) = regB r a ^^^ regB s b
  | [], [], _, _, _ => rfl
  | x :: a, y :: b, r, s, h => by
    have e : (x ^^^ y).toNat = x.toNat ^^^ y.toNat := UInt8.toNat_xor x y
    show regB (updN (r ^^^ s) (x ^^^ y).toNat) (xors a b) = _
    rw [e, updN_xor]
    exact regB_xor a b _ _ (by simpa using h)
theorem stepN_inj0 (a : Nat) (ha : a < 4294967296) (h : stepN a = 0) : a = 0 := by
  unfold stepN at h
  split at h
  · have := xor_zero_eq h
    omega
  · omega
theorem st_inj0 (n a : Nat) (ha : a < 4294967296) (h : st n a = 0) : a = 0 := by
  induction n generalizing a with
  | zero => exact h
  | succ n ih => exact stepN_inj0 a ha (ih _ (stepN_lt a ha) h)
/-- nothing but zeros is read: the register goes on by itself -/
theorem regB_zeros (n r : Nat) : regB r (List.replicate n 0) = st (8 * n) r := by
  induction n generalizing r with
  | zero => rfl
  | succ n ih =>
    rw [List.replicate_succ]
    show regB (updN r (0 : UInt8).toNat) _ = _
    rw [ih, updN, show (0 : UInt8).toNat = 0 from rfl, Nat.xor_zero, ← st_add, Nat.add_comm]
    rfl
theorem regB_four (a b c d : UInt8) : regB 0 [a, b, c, d] = st 32 (a.toNat + 256 * b.toNat + 65536 * c.toNat + 16777216 * d.toNat) := by
  have ha := a.toNat_lt
  have hb := b.toNat_lt
  have hc := c.toNat_lt
  have hd := d.toNat_lt
  have key : ∀ x y, x < 256 → st 8 x ^^^ y = st 8 (x + 256 * y) := by
    intro x y hx
    rw [st_split 8 (x + 256 * y), show (2 ^ 8 : Nat) = 256 from rfl, Nat.add_mul_mod_self_left, Nat.mod_eq_of_lt hx, Nat.add_mul_div_left _ _ (by omega), Nat.div_eq_of_lt hx, Nat.zero_add]
  have k2 : ∀ n x y, st n x ^^^ y = st n x ^^^ y := fun _ _ _ => rfl
  show updN (updN (updN (updN 0 a.toNat) b.toNat) c.toNat) d.toNat = _
  unfold updN
  rw [Nat.zero_xor, key _ _ ha]
  rw [show st 8 (st 8 (a.toNat + 256 * b.toNat)) = st 16 (a.toNat + 256 * b.toNat) from (st_add 8 8 _).symm]
  have key16 : st 16 (a.toNat + 256 * b.toNat) ^^^ c.toNat = st 16 (a.toNat + 256 * b.toNat + 65536 * c.toNat) := by
    rw [st_split 16 (a.toNat + 256 * b.toNat + 65536 * c.toNat), show (2 ^ 16 : Nat) = 65536 from rfl, Nat.add_mul_mod_self_left, Nat.mod_eq_of_lt (by omega), Nat.add_mul_div_left _ _ (by omega), Nat.div_eq_of_lt (by omega), Nat.zero_add]
  rw [key16, show st 8 (st 16 (a.toNat + 256 * b.toNat + 65536 * c.toNat)) = st 24 (a.toNat + 256 * b.toNat + 65536 * c.toNat) from (st_add 16 8 _).symm]
  have key24 : st 24 (a.toNat + 256 * b.toNat + 65536 * c.toNat) ^^^ d.toNat = st 24 (a.toNat + 256 * b.toNat + 65536 * c.toNat + 16777216 * d.toNat) := by
    rw [st_split 24 (a.toNat + 256 * b.toNat + 65536 * c.toNat + 16777216 * d.toNat), show (2 ^ 24 : Nat) = 16777216 from rfl, Nat.add_mul_mod_self_left, Nat.mod_eq_of_lt (by omega), Nat.add_mul_div_left _ _ (by omega), Nat.div_eq_of_lt (by omega), Nat.zero_add]
  rw [key24]
  exact (st_add 24 8 _).symm
/-- a sealed row leads to one register, and only such a one does -/
theorem regB_le4 (r : Nat) (x : Nat) (hx : x < 4294967296) : regB r (le4 x) = st 32 (r ^^^ x) := by
  have h0 := regB_four (UInt8.ofNat (x % 256)) (UInt8.ofNat (x / 256 % 256)) (UInt8.ofNat (x / 65536 % 256)) (UInt8.ofNat (x / 16777216 % 256))
  have e : (UInt8.ofNat (x % 256)).toNat + 256 * (UInt8.ofNat (x / 256 % 256)).toNat + 65536 * (UInt8.ofNat (x / 65536 % 256)).toNat + 16777216 * (UInt8.ofNat (x / 16777216 % 256)).toNat = x := by
    simp only [UInt8.toNat_ofNat']
    omega
  rw [e] at h0
  have hz : regB r (List.replicate 4 0) = st 32 r := regB_zeros 4 r
  have := regB_xor (le4 x) (List.replicate 4 0) 0 r (by simp [le4])
  have e2 : xors (le4 x) (List.replicate 4 0) = le4 x := by simp [xors, le4, List.replicate_succ]
  rw [e2, Nat.zero_xor, hz] at this
  have h1 : regB 0 (le4 x) = st 32 x := h0
  rw [this, h1, Nat.xor_comm r x, st_xor]
def residue : Nat := st 32 4294967295
theorem not_xor (n : Nat) (h : n < 4294967296) : n ^^^ (4294967295 - n) = 4294967295 := by
  have := not_u32 n h
  have hm : IntKind.u32.max = ((4294967295 : Nat) : Int) := by decide
  rw [hm, u32_xor_nat _ _ (by omega) h] at this
  have h2 : 4294967295 ^^^ n = 4294967295 - n := by omega
  rw [← h2, Nat.xor_comm 4294967295 n, ← Nat.xor_assoc, Nat.xor_self, Nat.zero_xor]
theorem sealB_residue (bs : List UInt8) : regB 4294967295 (sealB bs) = residue := by
  have hr := regB_lt bs 4294967295 (by omega)
  rw [sealB, regB_append, moreN_eq, Nat.sub_zero, regB_le4 _ _ (by omega), not_xor _ hr]
  rfl
theorem le4_of (a b c d : UInt8) : le4 (a.toNat + 256 * b.toNat + 65536 * c.toNat + 16777216 * d.toNat) = [a, b, c, d] := by
  have ha := a.toNat_lt
  have hb := b.toNat_lt
  have hc := c.toNat_lt
  have hd := d.toNat_lt
  simp only [le4]
  rw [show (a.toNat + 256 * b.toNat + 65536 * c.toNat + 16777216 * d.toNat) % 256 = a.toNat by omega,
    show (a.toNat + 256 * b.toNat + 65536 * c.toNat + 16777216 * d.toNat) / 256 % 256 = b.toNat by omega,
    show (a.toNat + 256 * b.toNat + 65536 * c.toNat + 16777216 * d.toNat) / 65536 % 256 = c.toNat by omega,
    show (a.toNat + 256 * b.toNat + 65536 * c.toNat + 16777216 * d.toNat) / 16777216 % 256 = d.toNat by omega]
  simp
theorem residue_seal (bs : List UInt8) (x : Nat) (hx : x < 4294967296) (h : regB 4294967295 (bs ++ le4 x) = residue) : x = moreN 0 bs := by
  have hr := regB_lt bs 4294967295 (by omega)
  rw [regB_append, regB_le4 _ _ hx] at h
  have h1 : st 32 ((regB 4294967295 bs ^^^ x) ^^^ 4294967295) = 0 := by rw [st_xor, h]; exact Nat.xor_self _
  have h2 := st_inj0 32 _ (Nat.xor_lt_two_pow (n := 32) (Nat.xor_lt_two_pow (n := 32) hr hx) (by omega)) h1
  have h3 := xor_zero_eq h2
  have h4 := not_xor _ hr
  rw [moreN_eq, Nat.sub_zero]
  have h5 := congrArg (fun z => regB 4294967295 bs ^^^ z) (h3.trans h4.symm)
  simpa only [← Nat.xor_assoc, Nat.xor_self, Nat.zero_xor] using h5
/-- sealed: just those rows of four bytes or more that lead there -/
theorem isSealed (s : List UInt8) (h : 4 ≤ s.length) : sealB (s.take (s.length - 4)) = s ↔ regB 4294967295 s = residue := by
  constructor
  · intro e
    rw [← e]
    exact sealB_residue _
  · intro e
    obtain ⟨bs, a, b, c, d, rfl⟩ : ∃ bs a b c d, s = bs ++ [a, b, c, d] := by
      have hl : (s.drop (s.length - 4)).length = 4 := by simp; omega
      match hq : s.drop (s.length - 4), hl with
      | [a, b, c, d], _ => exact ⟨s.take (s.length - 4), a, b, c, d, by rw [← hq, List.take_append_drop]⟩
    have e1 : (bs ++ [a, b, c, d]).take ((bs ++ [a, b, c, d]).length - 4) = bs := by simp
    rw [e1]
    have ha := a.toNat_lt
    have hb := b.toNat_lt
    have hc := c.toNat_lt
    have hd := d.toNat_lt
    rw [← le4_of a b c d] at e
    have := residue_seal bs _ (by omega) e
    rw [sealB, ← this, le4_of]
theorem openB_eq (s : List UInt8) : openB s = if 4 ≤ s.length ∧ regB 4294967295 s = residue then some (s.take (s.length - 4)) else none := by
  unfold openB
  by_cases h : 4 ≤ s.length
  · simp only [h, true_and, isSealed s h]
  · simp only [h, false_and]
theorem openB_seal (bs : List UInt8) : openB (sealB bs) = some bs := by
  rw [openB_eq, if_pos ⟨by rw [sealB_length]; omega, sealB_residue bs⟩]
  rw [sealB_length, Nat.add_sub_cancel]
  simp [sealB]
end Go.Proofs.Ytgmbleaecfmfiaa.Given
