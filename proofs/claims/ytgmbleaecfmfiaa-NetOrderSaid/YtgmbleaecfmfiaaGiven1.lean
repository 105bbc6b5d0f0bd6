/- THE SAME CONTRACTS, IN THE FORM IN WHICH THE PRINTED TEXTS CALL THEM: crc.More of bytes, the laws' own copies of bytes, slices.Clone of bytes. No condition beyond what a contract says of itself. -/
import Derived.Test.YtgmbleaecfmfiaaGiven0
namespace Go.Proofs.Ytgmbleaecfmfiaa.Given
open Go.RowKit Go.Proofs.YtgmbleaecfmfiaaW.PrintWords Go.Proofs.YtgmbleaecfmfiaaW.PrintLast Go.Proofs.YtgmbleaecfmfiaaW.PrintMore
/-- are all of them bytes? -/
def isB (l : List Int) : Bool := l.all fun x => decide (0 ≤ x ∧ x < 256)
/-- numbers as bytes -/
def toB (l : List Int) : List UInt8 := l.map fun x => UInt8.ofNat x.toNat
theorem nB_toB (l : List Int) (h : isB l = true) : nB (toB l) = l := by
  unfold nB toB
  rw [List.map_map]
  conv => rhs; rw [← List.map_id l]
  refine List.map_congr_left fun x hx => ?_
  have := List.all_eq_true.1 h x hx
  simp only [decide_eq_true_eq] at this
  simp
  omega
theorem toB_nB (bs : List UInt8) : toB (nB bs) = bs := by
  unfold nB toB
  rw [List.map_map]
  conv => rhs; rw [← List.map_id bs]
  exact List.map_congr_left fun c _ => by simp
theorem isB_nB (bs : List UInt8) : isB (nB bs) = true := by
  unfold isB nB
  rw [List.all_eq_true]
  intro x hx
  obtain ⟨c, _, rfl⟩ := List.mem_map.1 hx
  have := c.toNat_lt
  simp only [decide_eq_true_eq]
  omega
def crc_More.f (a0 : Int) (l1 : List Int) : Option Int := if 0 ≤ a0 ∧ a0 < 4294967296 ∧ isB l1 = true ∧ l1.length ≤ 140737488355328 then some ((moreN a0.toNat (toB l1) : Nat) : Int) else none
theorem crc_More.calls (a0 : Int) (A1 : Option Addr) (c1 : Nat) (l1 : List Int) (r : Int) (w : World) (hr1 : Kd.C (Kd.int .u8) w A1 l1.length l1) (hc1 : l1.length ≤ c1) (h : crc_More.f a0 l1 = some r) :
    Calls Try.prog 49 #[.int .u32 a0, .slice A1 l1.length c1] w fun e w' => e = .returned (.int .u32 r) ∧ Below w.heap.size w w' := by
  unfold crc_More.f at h
  split at h
  case isFalse => cases h
  rename_i hq
  obtain ⟨h0, h1, hb, hl⟩ := hq
  obtain rfl := Option.some.inj h
  have e := nB_toB l1 hb
  obtain ⟨n, rfl⟩ := Int.eq_ofNat_of_zero_le h0
  generalize toB l1 = bs at *
  subst e
  rw [nB_length] at *
  exact more.calls0 n (by omega) A1 c1 bs w (by rw [nB_length]; exact hr1) hl
abbrev slices_Clone_byte_byte.f := clone.f
theorem slices_Clone_byte_byte.calls (A0 : Option Addr) (c0 : Nat) (l0 : List Int) (r : List Int) (w : World) (hr0 : Kd.C (Kd.int .u8) w A0 l0.length l0) (hc0 : l0.length ≤ c0) (h : clone.f l0 = some r) :
    Calls Try.prog 44 #[.slice A0 l0.length c0] w fun e w' => ∃ v0_ : Value, e = .returned (v0_) ∧ Kd.R (Kd.int .u8) 5 w' w.heap.size (fun _ => True) v0_ r ∧ Below w.heap.size w w' :=
  clone.calls A0 c0 l0 r w hr0 hc0 h
end Go.Proofs.Ytgmbleaecfmfiaa.Given
