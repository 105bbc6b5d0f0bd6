/- THE WALK OF THE LAW NetNil: it returns true. No condition. -/
import Derived.Test.YtgmbleaecfmfiaaNetNil
import Derived.Test.YtgmbleaecfmfiaaNetSame
namespace Go.Proofs.Ytgmbleaecfmfiaa.Given
open Go.RowKit Go.Shelf Go.Proofs.YtgmbleaecfmfiaaW.PrintWords Go.Proofs.YtgmbleaecfmfiaaW.PrintLast Go.Proofs.YtgmbleaecfmfiaaW.PrintMore Go.Proofs.Ytgmbleaecfmfiaa.PS
set_option linter.unusedVariables false
theorem u64_of_wf {x : Int} (h : (Lit.int .u64 x).wf = true) : ∃ n : Nat, x = (n : Int) ∧ n < 18446744073709551616 := by
  simp [Lit.wf, IntKind.min, IntKind.max, IntKind.signed, IntKind.bits] at h
  exact ⟨x.toNat, by omega, by omega⟩
theorem nAt (i : Int) : atL [] i = (⟨0, [], false⟩, 17) := if_neg (fun h => by have := h.1; have := h.2; simp at *; omega)
theorem nTake (i : Int) : takeL [] i = ([], ⟨0, [], false⟩, 17) := if_neg (fun h => by have := h.1; have := h.2; simp at *; omega)
theorem nSpoil (i j : Int) (m : UInt8) : spoilN [] i j m = ([], 17) := if_neg (fun h => by have := h.1; have := h.2; simp at *; omega)
theorem lens_nil : ∀ l, l ∈ ([] : List Lt) → l.fr.length < 140737488355328 := fun l h => by simp at h
set_option maxRecDepth 100000 in
set_option maxHeartbeats 8000000 in
theorem NetNil_walk {w : World} (i : Int) (hi : -9223372036854775808 ≤ i ∧ i ≤ 9223372036854775807) {x : Int} (hw : (Lit.int .u64 x).wf = true) :
    Calls Try.prog 7 #[.int .i64 i, .int .u64 x] w fun e w' => e = .returned (.bool true) ∧ Below w.heap.size w w' := by
  obtain ⟨n, rfl, _⟩ := u64_of_wf hw
  have HI := Aside0.mk hi
  clear hw hi
  go_enter Try.func7, Try.ntmps7
  go_wp2_with fail
  generalize hW : World.alloc _ _ = W
  obtain ⟨hx, hB, hs⟩ := box1 hW
  clear hW
  have HN0 := Aside0.mk (net_new hx)
  have HB0 := Aside0.mk hB
  clear hx hB hs
  refine (atNil_h _ i).mono ?_
  rintro e w1 ⟨rfl, hb⟩
  have HN1 := Aside0.mk (HN0.out.below hb)
  have HB1 := Aside0.mk (HB0.out.trans (hb.mono HN0.out.base))
  clear hb
  go_wp2_with fail
  generalize hW : World.alloc _ _ = w2
  obtain ⟨_, hb, _⟩ := box1 hW
  clear hW
  have HN2 := Aside0.mk (HN1.out.below hb)
  have HB2 := Aside0.mk (HB1.out.trans (hb.mono HN1.out.base))
  clear hb
  refine (takeNil_h _ i).mono ?_
  rintro e w3 ⟨rfl, hb⟩
  have HN3 := Aside0.mk (HN2.out.below hb)
  have HB3 := Aside0.mk (HB2.out.trans (hb.mono HN2.out.base))
  clear hb
  go_wp2_with fail
  generalize hW : World.alloc _ _ = w4
  obtain ⟨_, hb, _⟩ := box1 hW
  clear hW
  have HN4 := Aside0.mk (HN3.out.below hb)
  have HB4 := Aside0.mk (HB3.out.trans (hb.mono HN3.out.base))
  clear hb
  refine (at_h HN4.out i (lensOk_of lens_nil)).mono ?_
  rw [nAt]
  rintro e w5 ⟨v, rfl, ho, hb⟩
  obtain ⟨Av, cv, rfl⟩ := ho.slice
  have HN5 := Aside0.mk (HN4.out.below hb)
  have HB5 := Aside0.mk (HB4.out.trans (hb.mono HN4.out.base))
  clear ho hb
  go_wp2_with fail
  generalize hW : World.alloc _ _ = w6
  obtain ⟨_, hb, _⟩ := box1 hW
  clear hW
  have HN6 := Aside0.mk (HN5.out.below hb)
  have HB6 := Aside0.mk (HB5.out.trans (hb.mono HN5.out.base))
  clear hb
  refine (take_h HN6.out i).mono ?_
  rw [nTake]
  rintro e w7 ⟨v, rfl, ho, v2, hn, hb, -, -⟩
  obtain ⟨Av, cv, rfl⟩ := ho.slice
  have HN7 := Aside0.mk hn
  have HB7 := Aside0.mk (HB6.out.trans hb)
  clear ho hn hb
  go_wp2_with fail
  generalize hW : World.alloc _ _ = w8
  obtain ⟨_, hb, _⟩ := box1 hW
  clear hW
  have HN8 := Aside0.mk (HN7.out.below hb)
  have HB8 := Aside0.mk (HB7.out.trans (hb.mono HN7.out.base))
  clear hb
  refine (sendNil_h _ n _).mono ?_
  rintro e w9 ⟨rfl, rfl⟩
  have HN9 := Aside0.mk HN8.out
  have HB9 := Aside0.mk HB8.out
  go_wp2_with fail
  refine (dropNil_h _ i).mono ?_
  rintro e w10 ⟨rfl, hb⟩
  have HN10 := Aside0.mk (HN9.out.below hb)
  have HB10 := Aside0.mk (HB9.out.trans (hb.mono HN9.out.base))
  clear hb
  go_wp2_with fail
  refine (doubleNil_h _ i).mono ?_
  rintro e w11 ⟨rfl, hb⟩
  have HN11 := Aside0.mk (HN10.out.below hb)
  have HB11 := Aside0.mk (HB10.out.trans (hb.mono HN10.out.base))
  clear hb
  go_wp2_with fail
  refine (spoilNil_h _ i i 0).mono ?_
  rintro e w12 ⟨rfl, hb⟩
  have HN12 := Aside0.mk (HN11.out.below hb)
  have HB12 := Aside0.mk (HB11.out.trans (hb.mono HN11.out.base))
  clear hb
  go_wp2_with fail
  refine (len_nil _).mono ?_
  rintro e w13 ⟨rfl, rfl⟩
  have HN13 := Aside0.mk HN12.out
  have HB13 := Aside0.mk HB12.out
  go_wp2_with fail
  refine (allNil_h _).mono ?_
  rintro e w14 ⟨rfl, rfl⟩
  have HN14 := Aside0.mk HN13.out
  have HB14 := Aside0.mk HB13.out
  go_wp2_with fail
  refine (countNil_h _ n).mono ?_
  rintro e w15 ⟨rfl, rfl⟩
  have HN15 := Aside0.mk HN14.out
  have HB15 := Aside0.mk HB14.out
  go_wp2_with fail
  refine (copyNil_h _).mono ?_
  rintro e w16 ⟨rfl, rfl⟩
  have HN16 := Aside0.mk HN15.out
  have HB16 := Aside0.mk HB15.out
  go_wp2_with fail
  obtain ⟨Az, cz, ez⟩ := HN16.out.2.2.slice
  have HZ := Aside0.mk ez
  clear ez
  have CL : Aside0 (Calls Try.prog 24 #[.pointer (some ⟨w.heap.size, 0, none⟩)] w16 fun e w' => e = .returned (.int .i64 0) ∧ w' = w16) := ⟨len_h (n := 0) (by have h := HN16.out.1; rw [HZ.out] at h; exact h)⟩
  refine (CL.out).mono ?_
  rintro e w17 ⟨rfl, rfl⟩
  have HN17 := Aside0.mk HN16.out
  have HB17 := Aside0.mk HB16.out
  go_wp2_with fail
  refine (all_h HN17.out (lensOk_of lens_nil) (by decide)).mono ?_
  rintro e w18 ⟨v, rfl, hbg, hb⟩
  obtain ⟨Av, cv, rfl⟩ := hbg.slice
  have HN18 := Aside0.mk (HN17.out.below hb)
  have HB18 := Aside0.mk (HB17.out.trans (hb.mono HN17.out.base))
  clear hbg hb
  go_wp2_with fail
  refine (count_h HN18.out n (by decide)).mono ?_
  rintro e w19 ⟨rfl, rfl⟩
  have HN19 := Aside0.mk HN18.out
  have HB19 := Aside0.mk HB18.out
  go_wp2_with fail
  refine (spoilM_h HN19.out i i HI.out 0 lens_nil).mono ?_
  rw [nSpoil]
  rintro e w20 ⟨rfl, v2, hn, hb, -, -⟩
  have HN20 := Aside0.mk hn
  have HB20 := Aside0.mk (HB19.out.trans hb)
  clear hn hb
  go_wp2_with fail
  refine (known28_h _).mono ?_
  rintro e w21 ⟨rfl, hb⟩
  have HN21 := Aside0.mk (HN20.out.below hb)
  have HB21 := Aside0.mk (HB20.out.trans (hb.mono HN20.out.base))
  clear hb
  go_wp2
  go_ret
  exact ⟨rfl, HB21.out⟩
end Go.Proofs.Ytgmbleaecfmfiaa.Given
