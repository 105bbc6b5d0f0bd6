/- THE WALK OF THE LAW KeysMay: it returns true. Condition: the library's tables; the text's size. -/
import Derived.Test.YtpbnppfipinomaaDoorKRefMay
namespace Go.Proofs.YtpbnppfipinomaaDoor.Given
open Go.RowKit Go.Shelf Go.Proofs.YtpbnppfipinomaaDoorW.PrintWords
set_option linter.unusedVariables false
set_option maxRecDepth 100000 in
set_option maxHeartbeats 2000000 in
theorem KeysMay_walk (k : ByteArray) (w : World) (hs : k.size ≤ 140737488351232) (hT : Tabs w) : Calls Tryd.prog 3 #[.string k] w fun e w' => e = .returned (.bool true) ∧ Below w.heap.size w w' := by
  have HT := Aside0.mk hT
  clear hT
  go_enter Tryd.func3, Tryd.ntmps3
  go_wp2_with fail
  refine (may_h k w (by omega) HT.out).mono ?_
  rintro e1 w1 ⟨rfl, hb⟩
  have C1 := Aside0.mk hb
  clear hb
  go_wp2_with fail
  refine (refMay_h k w1 (by omega)).mono ?_
  rintro e2 w2 ⟨rfl, rfl⟩
  generalize mayF k = m
  go_wp2_with fail
  refine (known_h w2 (HT.out.below C1.out)).mono ?_
  rintro e3 w3 ⟨rfl, hb⟩
  have C2 := Aside0.mk (chain C1.out hb)
  clear hb
  go_wp2
  go_ret
  exact ⟨rfl, C2.out⟩
end Go.Proofs.YtpbnppfipinomaaDoor.Given
