/- THE CONTRACT OF commonplaceref28.Same, of two bags of the same letters. No condition beyond what it says. -/
import Derived.Test.YtgmbleaecfmfiaaNetKnown
import Derived.Deep.RegionWith
namespace Go.Proofs.Ytgmbleaecfmfiaa.Given
open Go.RowKit Go.Shelf Go.Proofs.YtgmbleaecfmfiaaW.PrintWords Go.Proofs.YtgmbleaecfmfiaaW.PrintLast Go.Proofs.YtgmbleaecfmfiaaW.PrintMore Go.Proofs.Ytgmbleaecfmfiaa.PS
set_option linter.unusedVariables false
theorem rd_of_row {a : Option Addr} {len cap : Nat} {z : List Int} {w : World} (h : (a = none ∧ len = 0 ∧ cap = 0 ∧ z = []) ∨ ∃ x, a = some x ∧ len ≤ cap ∧ cap ≤ maxLen ∧ z.length = cap ∧ (∀ i, i < z.length → w.cell? (x.add i) = some (.int .u8 (z.getD i 0))) ∧ ∀ n ∈ z, (Lit.int .u8 n).wf = true) :
    ∃ bs : List UInt8, len = bs.length ∧ Rd w (.slice a len cap) bs := by
  obtain ⟨l, rfl, hr, hm, hw, hc⟩ := ReadsInt.ofRowC h
  have e := nB_toB l (isB_of l hw)
  generalize toB l = bs at e
  subst e
  have hl := nB_length bs
  refine ⟨bs, hl, a, cap, by rw [hl], by rw [← hl]; exact hc, ?_⟩
  have := Kd.C_of_reads (d := (0 : Int)) (h1 := fun _ => rfl) hr
  rw [hl] at this
  exact this
theorem byte_of_wf {x : Int} (h : (Lit.int .u8 x).wf = true) : ∃ m : UInt8, x = (m.toNat : Int) := by
  simp [Lit.wf, IntKind.min, IntKind.max, IntKind.signed, IntKind.bits] at h
  refine ⟨UInt8.ofNat x.toNat, ?_⟩
  rw [UInt8.toNat_ofNat']
  omega
set_option maxRecDepth 100000 in
set_option maxHeartbeats 2000000 in
theorem same_h {w : World} {b1 b2 : Nat} {v v2 : Value} {L : List Lt} (h1 : Bag w b1 v L) (h2 : Bag w b2 v2 L) (hL : L.length ≤ 140737488355328) :
    Calls Try.prog 20 #[v, v2] w fun e w' => e = .returned (.bool true) ∧ Below w.heap.size w w' := by
  have H1 := Aside0.mk h1
  have H2 := Aside0.mk h2
  obtain ⟨A, c, rfl⟩ := h1.slice
  obtain ⟨A2, c2, rfl⟩ := h2.slice
  clear h1 h2
  go_enter Try.func20, Try.ntmps20
  go_wp2_with fail
  go_loopw [5] (fun kk wr => ∃ k : Nat, k ≤ L.length ∧ kk = .int .i64 k ∧ Aside0 (Below w.heap.size w wr)) (fun kk _ => L.length - (intOf kk).toNat)
  case atStart => exact ⟨0, by omega, rfl, ⟨Below.refl _ _⟩⟩
  case round =>
    obtain ⟨k, hk, rfl, HB⟩ := hrel
    by_cases hlt : k < L.length
    · obtain ⟨r, cur, _, e, hxr, _, _, _, _, hla⟩ := (H1.out.below HB.out).open (by omega)
      subst e
      obtain ⟨r2, cur2, _, e, hxr2, _, _, _, _, hla2⟩ := (H2.out.below HB.out).open (by omega)
      subst e
      obtain ⟨vf, c0, c1, c2', hvf⟩ := hla k hlt
      obtain ⟨Af, cf, rfl⟩ := hvf.slice
      obtain ⟨vf2, d0, d1, d2, hvf2⟩ := hla2 k hlt
      obtain ⟨Af2, cf2, rfl⟩ := hvf2.slice
      rw [← hxr.cell] at c0 c1 c2'
      rw [← hxr2.cell] at d0 d1 d2
      have hltr := hxr.lt
      have hltr2 := hxr2.lt
      have HV1 := Aside0.mk hvf.rd
      have HV2 := Aside0.mk hvf2.rd
      clear hxr hxr2 hla hla2 hvf hvf2
      generalize L[k] = l at *
      go_wp2_with fail
      go_region_with (go_at_call 17; refine (sameLet_h l (HV1.out.below (Below.refl _ _).drew) (HV2.out.below (Below.refl _ _).drew)).mono ?_; rintro e w1 ⟨rfl, hb1⟩; have HB1 := Aside0.mk (chain HB.out ((Below.refl _ _).drew.trans hb1)); clear hb1)
      all_goals go_wp2
      all_goals refine ⟨⟨k + 1, by omega, by go_num, HB1⟩, ?_⟩
      all_goals simp [intOf]
      all_goals omega
    · obtain rfl : k = L.length := by omega
      go_wp2
      go_ret
      exact ⟨rfl, HB.out⟩
end Go.Proofs.Ytgmbleaecfmfiaa.Given
