/- THE CONTRACTS OF crc, OF THE DOCUMENT's crc, AND OF THE LAWS' OWN HELPERS, of bytes: for the laws that are walked by hand. No condition beyond the sizes that each contract says. -/
import Derived.Test.YtgmbleaecfmfiaaCrcPure
import Derived.Test.YtgmbleaecfmfiaaCLit
import Derived.Test.YtgmbleaecfmfiaaOwn28
namespace Go.Proofs.Ytgmbleaecfmfiaa.Given
open Go.RowKit Go.Proofs.YtgmbleaecfmfiaaW.PrintWords Go.Proofs.YtgmbleaecfmfiaaW.PrintLast Go.Proofs.YtgmbleaecfmfiaaW.PrintMore Go.Proofs.Ytgmbleaecfmfiaa.PS
/-- a slice that reads as these bytes -/
def Rd (w : World) (v : Value) (bs : List UInt8) : Prop := ∃ A c, v = .slice A bs.length c ∧ bs.length ≤ c ∧ Kd.C (Kd.int .u8) w A bs.length (nB bs)
/-- a slice of the call's own, of these bytes, in a block from 'base' on -/
def Own (w : World) (base : Nat) (v : Value) (bs : List UInt8) : Prop := Kd.R (Kd.int .u8) 5 w base (fun _ => True) v (nB bs)
theorem Rd.below {w w1 : World} {v : Value} {bs : List UInt8} (h : Rd w v bs) (hb : Below w.heap.size w w1) : Rd w1 v bs := by
  obtain ⟨A, c, e, hc, hr⟩ := h
  exact ⟨A, c, e, hc, Kd.C_below hr hb⟩
theorem Own.rd {w : World} {base : Nat} {v : Value} {bs : List UInt8} (h : Own w base v bs) : Rd w v bs := by
  obtain ⟨A, c, e, hc, hr⟩ := Kd.R_reads h
  rw [nB_length] at e hc hr
  exact ⟨A, c, e, hc, hr⟩
theorem Rd.nil (w : World) (c : Nat) : Rd w (.slice none 0 c) [] := ⟨none, c, rfl, Nat.zero_le _, Kd.C_nil _ _⟩
theorem Rd.lit (w : World) (bs : List UInt8) (m : Nat × Nat) (h : bs.length ≤ 9223372036854775807) : Rd (w.alloc (.cells (nums .u8 (nB bs)).toArray 5 m)) (.slice (some ⟨w.heap.size, 0, none⟩) bs.length bs.length) bs := by
  have := C_lit w (nB bs) m (by rw [nB_length]; exact h)
  rw [nB_length] at this
  exact ⟨_, _, rfl, Nat.le_refl _, this⟩
theorem Rd.take {w : World} {A : Option Addr} {c : Nat} {bs : List UInt8} (h : Rd w (.slice A bs.length c) bs) (m : Nat) (hm : m ≤ bs.length) : Rd w (.slice A m c) (bs.take m) := by
  obtain ⟨A', c', e, hc, hr⟩ := h
  cases e
  have hl : (bs.take m).length = m := by rw [List.length_take]; omega
  refine ⟨A, c, by rw [hl], by omega, ?_⟩
  obtain ⟨h1, h2, h3⟩ := hr
  rw [hl, nB_take]
  refine ⟨by rw [List.length_take]; rw [h1]; omega, by omega, fun hp => ?_⟩
  obtain ⟨ad, e1, e2⟩ := h3 (by omega)
  refine ⟨ad, e1, fun j p hj => e2 j p ?_⟩
  rw [List.getElem?_take] at hj
  split at hj
  · exact hj
  · cases hj
theorem seal_h {w : World} {v : Value} {bs : List UInt8} (h : Rd w v bs) (hl : bs.length + 4 < 140737488355328) :
    Calls Try.prog 42 #[v] w fun e w' => ∃ v' : Value, e = .returned v' ∧ Own w' w.heap.size v' (sealB bs) ∧ Below w.heap.size w w' := by
  obtain ⟨A, c, rfl, hc, hr⟩ := h
  have := crc_Seal.calls A c (nB bs) (nB (sealB bs)) w (by rw [nB_length]; exact hr) (by rw [nB_length]; exact hc) (seal_f bs hl)
  rw [nB_length] at this
  exact this
theorem sum_h {w : World} {v : Value} {bs : List UInt8} (h : Rd w v bs) (hl : bs.length ≤ 140737488355328) :
    Calls Try.prog 47 #[v] w fun e w' => e = .returned (.int .u32 (moreN 0 bs : Nat)) ∧ Below w.heap.size w w' := by
  obtain ⟨A, c, rfl, hc, hr⟩ := h
  have := crc_Sum.calls A c (nB bs) _ w (by rw [nB_length]; exact hr) (by rw [nB_length]; exact hc) (sum_f bs hl)
  rw [nB_length] at this
  exact this
theorem more_h {w : World} {v : Value} {bs : List UInt8} (s : Nat) (hs : s < 4294967296) (h : Rd w v bs) (hl : bs.length ≤ 140737488355328) :
    Calls Try.prog 49 #[.int .u32 s, v] w fun e w' => e = .returned (.int .u32 (moreN s bs : Nat)) ∧ Below w.heap.size w w' := by
  obtain ⟨A, c, rfl, hc, hr⟩ := h
  have := crc_More.calls (s : Int) A c (nB bs) _ w (by rw [nB_length]; exact hr) (by rw [nB_length]; exact hc) (more_f s bs hs hl)
  rw [nB_length] at this
  exact this
def openL (bs : List UInt8) : List UInt8 := (openB bs).getD []
theorem open_h {w : World} {v : Value} {bs : List UInt8} (h : Rd w v bs) (hl : bs.length < 140737488355328) :
    Calls Try.prog 43 #[v] w fun e w' => ∃ v' : Value, e = .returned (.tuple #[v', .bool (openB bs).isSome]) ∧ Own w' w.heap.size v' (openL bs) ∧ Below w.heap.size w w' := by
  obtain ⟨A, c, rfl, hc, hr⟩ := h
  have hf : crc_Open.f (bs.length + 1) (nB bs) = some (nB (openL bs), (openB bs).isSome) := by
    rw [open_f _ bs hl (by omega)]
    unfold openL
    cases openB bs <;> rfl
  have := crc_Open.calls (bs.length + 1) A c (nB bs) _ _ w (by rw [nB_length]; exact hr) (by rw [nB_length]; exact hc) hf
  rw [nB_length] at this
  exact this
theorem nB_eq (a b : List UInt8) : (nB a = nB b) = (a = b) := propext ⟨nB_inj, fun h => congrArg nB h⟩
theorem chain {w w1 w2 : World} (h : Below w.heap.size w w1) (k : Below w1.heap.size w1 w2) : Below w.heap.size w w2 := h.trans (k.mono h.size)
end Go.Proofs.Ytgmbleaecfmfiaa.Given
