/- THE WALKS OF THE LAWS FrameForms AND FrameOpens: they return true, and nothing that was there has turned. Condition: the bytes are fewer than 2^47 - 4096. -/
import Derived.Test.YtfffkmpbkaakgaaFrSpoil
namespace Go.Proofs.Ytfffkmpbkaakgaa.Given
open Go.RowKit Go.Proofs.YtfffkmpbkaakgaaW.PrintWords Go.Proofs.YtfffkmpbkaakgaaW.PrintLast Go.Proofs.YtfffkmpbkaakgaaW.PrintMore Go.Proofs.Ytfffkmpbkaakgaa.PS
theorem rd_of_row {a : Option Addr} {len cap : Nat} {z : List Int} {w : World} (h : (a = none ∧ len = 0 ∧ cap = 0 ∧ z = []) ∨ ∃ x, a = some x ∧ len ≤ cap ∧ cap ≤ maxLen ∧ z.length = cap ∧ (∀ i, i < z.length → w.cell? (x.add i) = some (.int .u8 (z.getD i 0))) ∧ ∀ n ∈ z, (Lit.int .u8 n).wf = true) :
    ∃ bs : List UInt8, len = bs.length ∧ Rd w (.slice a len cap) bs := by
  obtain ⟨l, rfl, hr, hm, hw, hc⟩ := ReadsInt.ofRowC h
  have e := nB_toB l (isB_of l hw)
  generalize toB l = bs at e
  subst e
  have hl := nB_length bs
  refine ⟨bs, hl, a, cap, by rw [hl], by rw [← hl]; exact hc, ?_⟩
  have := Kd.C_of_reads (d := (0 : Int)) (h1 := fun _ => rfl) hr
  rw [hl] at this
  exact this
theorem byte_of_wf {x : Int} (h : (Lit.int .u8 x).wf = true) : ∃ m : UInt8, x = (m.toNat : Int) := by
  simp [Lit.wf, IntKind.min, IntKind.max, IntKind.signed, IntKind.bits] at h
  refine ⟨UInt8.ofNat x.toNat, ?_⟩
  rw [UInt8.toNat_ofNat']
  omega
set_option maxRecDepth 100000 in
set_option maxHeartbeats 2000000 in
theorem FrameForms_walk {w : World} {v : Value} {bs : List UInt8} (k : UInt8) (hv : Rd w v bs) (hl : bs.length ≤ 140737488351232) :
    Calls Try.prog 3 #[.int .u8 (k.toNat : Int), v] w fun e w' => e = .returned (.bool true) ∧ Below w.heap.size w w' := by
  have HV := Aside0.mk hv
  clear hv
  go_enter Try.func3, Try.ntmps3
  go_wp2_with fail
  refine (own_h HV.out (by omega)).mono ?_
  rintro e w1 ⟨v1, rfl, ho1, hb1⟩
  have H1 := Aside0.mk ho1.rd
  have B1 := Aside0.mk hb1
  clear ho1 hb1
  go_wp2_with fail
  refine (frame_h k H1.out (by omega)).mono ?_
  rintro e w2 ⟨v2, rfl, ho2, hb2⟩
  have H2 := Aside0.mk ho2.rd
  have B2 := Aside0.mk (chain B1.out hb2)
  clear ho2 hb2
  go_wp2_with fail
  refine (refFrame_h k (HV.out.below B2.out) (by omega)).mono ?_
  rintro e w3 ⟨v3, rfl, ho3, hb3⟩
  have H3 := Aside0.mk ho3.rd
  have H2' := Aside0.mk (H2.out.below hb3)
  have B3 := Aside0.mk (chain B2.out hb3)
  clear ho3 hb3
  go_wp2_with fail
  refine (same_h H2'.out H3.out).mono ?_
  rintro e w4 ⟨rfl, hd4⟩
  have B4 := Aside0.mk (chain B3.out hd4.below)
  clear hd4
  rw [decide_eq_true rfl]
  go_wp2_with fail
  refine (known16_h w4).mono ?_
  rintro e w5 ⟨rfl, hb5⟩
  have B5 := Aside0.mk (chain B4.out hb5)
  clear hb5
  go_wp2
  go_ret
  exact ⟨rfl, B5.out⟩
set_option maxRecDepth 100000 in
set_option maxHeartbeats 2000000 in
theorem FrameOpens_walk {w : World} {v : Value} {bs : List UInt8} (hv : Rd w v bs) (hl : bs.length ≤ 140737488351232) (k : UInt8) :
    Calls Try.prog 5 #[v, .int .u8 (k.toNat : Int)] w fun e w' => e = .returned (.bool true) ∧ Below w.heap.size w w' := by
  have HV := Aside0.mk hv
  clear hv
  go_enter Try.func5, Try.ntmps5
  go_wp2_with fail
  refine (own_h HV.out (by omega)).mono ?_
  rintro e w1 ⟨v1, rfl, ho1, hb1⟩
  have H1 := Aside0.mk ho1.rd
  have B1 := Aside0.mk hb1
  clear ho1 hb1
  go_wp2_with fail
  refine (openF_h H1.out (by omega)).mono ?_
  rintro e w2 ⟨v2, rfl, ho2, hb2⟩
  have H2 := Aside0.mk ho2.rd
  have B2 := Aside0.mk (chain B1.out hb2)
  clear ho2 hb2
  go_wp2_with fail
  refine (refOpenF_h (HV.out.below B2.out) (by omega)).mono ?_
  rintro e w3 ⟨v3, rfl, ho3, hb3⟩
  have H3 := Aside0.mk ho3
  have H2' := Aside0.mk (H2.out.below hb3)
  have B3 := Aside0.mk (chain B2.out hb3)
  clear ho3 hb3
  go_wp2_with fail
  refine (same_h H2'.out H3.out).mono ?_
  rintro e w4 ⟨rfl, hd4⟩
  have B4 := Aside0.mk (chain B3.out hd4.below)
  clear hd4
  rw [decide_eq_true rfl]
  go_wp2_with fail
  refine (own_h (HV.out.below B4.out) (by omega)).mono ?_
  rintro e w5 ⟨v5, rfl, ho5, hb5⟩
  have H5 := Aside0.mk ho5.rd
  have B5 := Aside0.mk (chain B4.out hb5)
  clear ho5 hb5
  go_wp2_with fail
  refine (bodyF_h k H5.out (by omega)).mono ?_
  rintro e w6 ⟨v6, rfl, ho6, hb6⟩
  have H6 := Aside0.mk ho6.rd
  have B6 := Aside0.mk (chain B5.out hb6)
  clear ho6 hb6
  go_wp2_with fail
  refine (refBodyF_h k (HV.out.below B6.out) (by omega)).mono ?_
  rintro e w7 ⟨v7, rfl, ho7, hb7⟩
  have H7 := Aside0.mk ho7
  have H6' := Aside0.mk (H6.out.below hb7)
  have B7 := Aside0.mk (chain B6.out hb7)
  clear ho7 hb7
  go_wp2_with fail
  refine (same_h H6'.out H7.out).mono ?_
  rintro e w8 ⟨rfl, hd8⟩
  have B8 := Aside0.mk (chain B7.out hd8.below)
  clear hd8
  rw [decide_eq_true rfl]
  go_wp2_with fail
  refine (known16_h w8).mono ?_
  rintro e w9 ⟨rfl, hb9⟩
  have B9 := Aside0.mk (chain B8.out hb9)
  clear hb9
  go_wp2
  go_ret
  exact ⟨rfl, B9.out⟩
end Go.Proofs.Ytfffkmpbkaakgaa.Given
