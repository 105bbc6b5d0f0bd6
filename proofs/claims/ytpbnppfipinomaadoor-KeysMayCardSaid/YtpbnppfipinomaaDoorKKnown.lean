/- THE CONTRACT OF commonplacelaw05.known: true. No condition beyond the library's tables. -/
import Derived.Test.YtpbnppfipinomaaDoorKEnd
namespace Go.Proofs.YtpbnppfipinomaaDoor.Given
open Go.RowKit Go.Shelf Go.Proofs.YtpbnppfipinomaaDoorW.PrintWords
set_option maxRecDepth 100000 in
set_option maxHeartbeats 1000000 in
theorem known_h (w : World) (hT : Tabs w) : Calls Tryd.prog 12 #[] w fun e w' => e = .returned (.bool true) ∧ Below w.heap.size w w' := by
  have HT := Aside0.mk hT
  clear hT
  have e1 : endL (⟨#[97, 98]⟩ : ByteArray).data.toList = some [97, 99] := by decide +kernel
  have e2 : endL (⟨#[97, 255]⟩ : ByteArray).data.toList = some [98] := by decide +kernel
  have e3 : endL (⟨#[]⟩ : ByteArray).data.toList = none := by decide +kernel
  have e4 : turnF ⟨#[97, 47, 120]⟩ ⟨#[97, 47]⟩ ⟨#[98, 47]⟩ = (⟨#[98, 47, 120]⟩, 0) := by decide +kernel
  have e5 : turnF ⟨#[99]⟩ ⟨#[97, 47]⟩ ⟨#[98, 47]⟩ = (⟨#[]⟩, 12) := by decide +kernel
  have E1 := Aside0.mk e1
  have E2 := Aside0.mk e2
  have E3 := Aside0.mk e3
  have E4 := Aside0.mk e4
  have E5 := Aside0.mk e5
  clear e1 e2 e3 e4 e5
  go_enter Tryd.func12, Tryd.ntmps12
  go_wp2_with fail
  refine (end_h _ _ (by decide)).mono ?_
  rintro e w1 ⟨rfl, hb⟩
  rw [E1.out]
  have C1 := Aside0.mk hb
  clear hb
  go_wp2_with fail
  refine (end_h _ _ (by decide)).mono ?_
  rintro e w2 ⟨rfl, hb⟩
  rw [E2.out]
  have C2 := Aside0.mk (chain C1.out hb)
  clear hb
  go_wp2_with fail
  refine (end_h _ _ (by decide)).mono ?_
  rintro e w3 ⟨rfl, hb⟩
  rw [E3.out]
  have C3 := Aside0.mk (chain C2.out hb)
  clear hb
  go_wp2_with fail
  refine (turn_h _ _ _ w3 (HT.out.below C3.out) (by decide +kernel)).mono ?_
  rintro e w4 ⟨rfl, hb⟩
  rw [E4.out]
  have C4 := Aside0.mk (chain C3.out hb)
  clear hb
  go_wp2_with fail
  refine (turn_h _ _ _ w4 (HT.out.below C4.out) (by decide +kernel)).mono ?_
  rintro e w5 ⟨rfl, hb⟩
  rw [E5.out]
  have C5 := Aside0.mk (chain C4.out hb)
  clear hb
  go_wp2
  go_ret
  exact ⟨rfl, C5.out⟩
end Go.Proofs.YtpbnppfipinomaaDoor.Given
