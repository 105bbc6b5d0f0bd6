/- THE CONTRACTS OF crc, OF THE DOCUMENT's crc, AND OF THE LAWS' OWN HELPERS, of bytes: for the laws that are walked by hand. No condition beyond the sizes that each contract says. -/
import Derived.Test.YtfffkmpbkaakgaaCrcPure
import Derived.Test.YtfffkmpbkaakgaaCLit
import Derived.Test.YtfffkmpbkaakgaaOwn16
namespace Go.Proofs.Ytfffkmpbkaakgaa.Given
open Go.RowKit Go.Proofs.YtfffkmpbkaakgaaW.PrintWords Go.Proofs.YtfffkmpbkaakgaaW.PrintLast Go.Proofs.YtfffkmpbkaakgaaW.PrintMore Go.Proofs.Ytfffkmpbkaakgaa.PS
/-- a slice that reads as these bytes -/
def Rd (w : World) (v : Value) (bs : List UInt8) : Prop := ∃ A c, v = .slice A bs.length c ∧ bs.length ≤ c ∧ Kd.C (Kd.int .u8) w A bs.length (nB bs)
/-- a slice of the call's own, of these bytes, in a block from 'base' on -/
def Own (w : World) (base : Nat) (v : Value) (bs : List UInt8) : Prop := Kd.R (Kd.int .u8) 5 w base (fun _ => True) v (nB bs)
theorem Rd.below {w w1 : World} {v : Value} {bs : List UInt8} (h : Rd w v bs) (hb : Below w.heap.size w w1) : Rd w1 v bs := by
  obtain ⟨A, c, e, hc, hr⟩ := h
  exact ⟨A, c, e, hc, Kd.C_below hr hb⟩
theorem Own.rd {w : World} {base : Nat} {v : Value} {bs : List UInt8} (h : Own w base v bs) : Rd w v bs := by
  obtain ⟨A, c, e, hc, hr⟩ := Kd.R_reads h
  rw [nB_length] at e hc hr
  exact ⟨A, c, e, hc, hr⟩
theorem Rd.nil (w : World) (c : Nat) : Rd w (.slice none 0 c) [] := ⟨none, c, rfl, Nat.zero_le _, Kd.C_nil _ _⟩
theorem Rd.lit (w : World) (bs : List UInt8) (m : Nat × Nat) (h : bs.length ≤ 9223372036854775807) : Rd (w.alloc (.cells (nums .u8 (nB bs)).toArray 5 m)) (.slice (some ⟨w.heap.size, 0, none⟩) bs.length bs.length) bs := by
  have := C_lit w (nB bs) m (by rw [nB_length]; exact h)
  rw [nB_length] at this
  exact ⟨_, _, rfl, Nat.le_refl _, this⟩
theorem Rd.take {w : World} {A : Option Addr} {c : Nat} {bs : List UInt8} (h : Rd w (.slice A bs.length c) bs) (m : Nat) (hm : m ≤ bs.length) : Rd w (.slice A m c) (bs.take m) := by
  obtain ⟨A', c', e, hc, hr⟩ := h
  cases e
  have hl : (bs.take m).length = m := by rw [List.length_take]; omega
  refine ⟨A, c, by rw [hl], by omega, ?_⟩
  obtain ⟨h1, h2, h3⟩ := hr
  rw [hl, nB_take]
  refine ⟨by rw [List.length_take]; rw [h1]; omega, by omega, fun hp => ?_⟩
  obtain ⟨ad, e1, e2⟩ := h3 (by omega)
  refine ⟨ad, e1, fun j p hj => e2 j p ?_⟩
  rw [List.getElem?_take] at hj
  split at hj
  · exact hj
  · cases hj
theorem own_h {w : World} {v : Value} {bs : List UInt8} (h : Rd w v bs) (hl : bs.length ≤ 140737488355328) :
    Calls Try.prog 11 #[v] w fun e w' => ∃ v' : Value, e = .returned v' ∧ Own w' w.heap.size v' bs ∧ Below w.heap.size w w' := by
  obtain ⟨A, c, rfl, hc, hr⟩ := h
  have := commonplacelaw16_own.calls A c (nB bs) (nB bs) w (by rw [nB_length]; exact hr) (by rw [nB_length]; exact hc) (own_f bs hl)
  rw [nB_length] at this
  exact this
theorem seal_h {w : World} {v : Value} {bs : List UInt8} (h : Rd w v bs) (hl : bs.length + 4 < 140737488355328) :
    Calls Try.prog 21 #[v] w fun e w' => ∃ v' : Value, e = .returned v' ∧ Own w' w.heap.size v' (sealB bs) ∧ Below w.heap.size w w' := by
  obtain ⟨A, c, rfl, hc, hr⟩ := h
  have := crc_Seal.calls A c (nB bs) (nB (sealB bs)) w (by rw [nB_length]; exact hr) (by rw [nB_length]; exact hc) (seal_f bs hl)
  rw [nB_length] at this
  exact this
theorem sum_h {w : World} {v : Value} {bs : List UInt8} (h : Rd w v bs) (hl : bs.length ≤ 140737488355328) :
    Calls Try.prog 28 #[v] w fun e w' => e = .returned (.int .u32 (moreN 0 bs : Nat)) ∧ Below w.heap.size w w' := by
  obtain ⟨A, c, rfl, hc, hr⟩ := h
  have := crc_Sum.calls A c (nB bs) _ w (by rw [nB_length]; exact hr) (by rw [nB_length]; exact hc) (sum_f bs hl)
  rw [nB_length] at this
  exact this
theorem more_h {w : World} {v : Value} {bs : List UInt8} (s : Nat) (hs : s < 4294967296) (h : Rd w v bs) (hl : bs.length ≤ 140737488355328) :
    Calls Try.prog 31 #[.int .u32 s, v] w fun e w' => e = .returned (.int .u32 (moreN s bs : Nat)) ∧ Below w.heap.size w w' := by
  obtain ⟨A, c, rfl, hc, hr⟩ := h
  have := crc_More.calls (s : Int) A c (nB bs) _ w (by rw [nB_length]; exact hr) (by rw [nB_length]; exact hc) (more_f s bs hs hl)
  rw [nB_length] at this
  exact this
def openL (bs : List UInt8) : List UInt8 := (openB bs).getD []
theorem open_h {w : World} {v : Value} {bs : List UInt8} (h : Rd w v bs) (hl : bs.length < 140737488355328) :
    Calls Try.prog 23 #[v] w fun e w' => ∃ v' : Value, e = .returned (.tuple #[v', .bool (openB bs).isSome]) ∧ Own w' w.heap.size v' (openL bs) ∧ Below w.heap.size w w' := by
  obtain ⟨A, c, rfl, hc, hr⟩ := h
  have hf : crc_Open.f (bs.length + 1) (nB bs) = some (nB (openL bs), (openB bs).isSome) := by
    rw [open_f _ bs hl (by omega)]
    unfold openL
    cases openB bs <;> rfl
  have := crc_Open.calls (bs.length + 1) A c (nB bs) _ _ w (by rw [nB_length]; exact hr) (by rw [nB_length]; exact hc) hf
  rw [nB_length] at this
  exact this
theorem refSeal_h {w : World} {v : Value} {bs : List UInt8} (h : Rd w v bs) (hl : bs.length + 4 < 140737488355328) :
    Calls Try.prog 22 #[v] w fun e w' => ∃ v' : Value, e = .returned v' ∧ Own w' w.heap.size v' (sealB bs) ∧ Below w.heap.size w w' := by
  obtain ⟨A, c, rfl, hc, hr⟩ := h
  have := commonplaceref15_Seal.calls (10 * bs.length + 6) A c (nB bs) (nB (sealB bs)) w (by rw [nB_length]; exact hr) (by rw [nB_length]; exact hc) (refSeal_f _ bs hl (by omega))
  rw [nB_length] at this
  exact this
theorem nB_eq (a b : List UInt8) : (nB a = nB b) = (a = b) := propext ⟨nB_inj, fun h => congrArg nB h⟩
theorem same_h {w : World} {v v2 : Value} {bs cs : List UInt8} (h : Rd w v bs) (h2 : Rd w v2 cs) :
    Calls Try.prog 13 #[v, v2] w fun e w' => e = .returned (.bool (decide (bs = cs))) ∧ Drawn0 w w' := by
  obtain ⟨A, c, rfl, hc, hr⟩ := h
  obtain ⟨A2, c2, rfl, hc2, hr2⟩ := h2
  have hm := hr.2.1
  have := commonplaceref15_Same.calls (bs.length + 1) A c (nB bs) A2 c2 (nB cs) _ w (by rw [nB_length]; exact hr) (by rw [nB_length]; exact hc) (by rw [nB_length]; exact hr2) (by rw [nB_length]; exact hc2) (same_f _ _ _ (by rw [nB_length]; exact hm) (by rw [nB_length]; omega))
  rw [nB_length, nB_length] at this
  simp only [nB_eq] at this
  exact this
theorem chain {w w1 w2 : World} (h : Below w.heap.size w w1) (k : Below w1.heap.size w1 w2) : Below w.heap.size w w2 := h.trans (k.mono h.size)
set_option maxRecDepth 100000 in
set_option maxHeartbeats 400000 in
/-- the document's Open: what it hands back is a part of what it was handed -/
theorem refOpen_h {w : World} {v : Value} {bs : List UInt8} (h : Rd w v bs) (hl : bs.length < 140737488355328) :
    Calls Try.prog 25 #[v] w fun e w' => ∃ v' : Value, e = .returned (.tuple #[v', .bool (openB bs).isSome]) ∧ Rd w' v' (openL bs) ∧ Below w.heap.size w w' := by
  have hv := h
  obtain ⟨A, c, rfl, hc, _⟩ := h
  by_cases h4 : bs.length < 4
  · have hd : decide ((bs.length : Int) < 4) = true := decide_eq_true (by omega)
    have ho : openB bs = none := by unfold openB; rw [if_neg (by omega)]
    have HO := Aside0.mk ho
    clear ho hv
    go_enter Try.func25, Try.ntmps25
    go_wp2
    go_ret2
    rw [HO.out]
    refine ⟨_, rfl, ?_, Below.refl _ _⟩
    unfold openL
    rw [HO.out]
    exact Rd.nil _ _
  · have hd : decide ((bs.length : Int) < 4) = false := decide_eq_false (by omega)
    have ht := Aside0.mk (hv.take (bs.length - 4) (by omega))
    have HV := Aside0.mk hv
    have hlt : (bs.take (bs.length - 4)).length = bs.length - 4 := by rw [List.length_take]; omega
    have HLT := Aside0.mk hlt
    have hi0 : 0 ≤ (bs.length : Int) - 4 := by omega
    have hi1 : ((bs.length : Int) - 4).toNat = bs.length - 4 := by omega
    have hi2 : (bs.length : Int) - 4 ≤ (c : Int) := by omega
    have ho : openB bs = if sealB (bs.take (bs.length - 4)) = bs then some (bs.take (bs.length - 4)) else none := by
      unfold openB
      have : 4 ≤ bs.length := by omega
      simp only [this, true_and]
    have HO := Aside0.mk ho
    clear ho hv hlt
    go_enter Try.func25, Try.ntmps25
    go_wp2_with fail
    refine (refSeal_h ht.out (by rw [HLT.out]; omega)).mono ?_
    rintro e w1 ⟨v1, rfl, ho1, hb1⟩
    have HO1 := Aside0.mk ho1
    have HB1 := Aside0.mk hb1
    clear ho1 hb1
    go_wp2_with fail
    refine (same_h HO1.out.rd (HV.out.below HB1.out)).mono ?_
    rintro e w2 ⟨rfl, hd2⟩
    have HD2 := Aside0.mk hd2.below
    clear hd2
    by_cases hs : sealB (bs.take (bs.length - 4)) = bs
    · have hsd : decide (sealB (bs.take (bs.length - 4)) = bs) = true := decide_eq_true hs
      have HS := Aside0.mk hs
      clear hs
      rw [hsd]
      clear hsd
      go_wp2
      go_ret2
      rw [HO.out, if_pos HS.out]
      refine ⟨_, rfl, ?_, chain HB1.out HD2.out⟩
      unfold openL
      rw [HO.out, if_pos HS.out]
      exact ht.out.below (chain HB1.out HD2.out)
    · have hsd : decide (sealB (bs.take (bs.length - 4)) = bs) = false := decide_eq_false hs
      have HS := Aside0.mk hs
      clear hs
      rw [hsd]
      clear hsd
      go_wp2
      go_ret2
      rw [HO.out, if_neg HS.out]
      refine ⟨_, rfl, ?_, chain HB1.out HD2.out⟩
      unfold openL
      rw [HO.out, if_neg HS.out]
      exact Rd.nil _ _
end Go.Proofs.Ytfffkmpbkaakgaa.Given
