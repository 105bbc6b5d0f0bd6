/- THE WALK OF THE LAW KeysEnd: it returns true. Condition: the library's tables; the text's size. -/
import Derived.Test.YtpbnppfipinomaaDoorKRefEnd
namespace Go.Proofs.YtpbnppfipinomaaDoor.Given
open Go.RowKit Go.Shelf Go.Proofs.YtpbnppfipinomaaDoorW.PrintWords
set_option maxRecDepth 100000 in
set_option maxHeartbeats 1000000 in
theorem KeysEnd_walk (p : ByteArray) (w : World) (hs : p.size ≤ 140737488351232) (hT : Tabs w) : Calls Tryd.prog 4 #[.string p] w fun e w' => e = .returned (.bool true) ∧ Below w.heap.size w w' := by
  have HT := Aside0.mk hT
  clear hT
  go_enter Tryd.func4, Tryd.ntmps4
  go_wp2_with fail
  refine (end_h p w (by omega)).mono ?_
  rintro e w1 ⟨rfl, hb⟩
  have C1 := Aside0.mk hb
  clear hb
  go_wp2_with fail
  refine (refEnd_h p w1 (by omega)).mono ?_
  rintro e w2 ⟨rfl, hb⟩
  have C2 := Aside0.mk (chain C1.out hb)
  clear hb
  generalize (endL p.data.toList).isSome = q
  generalize (endL p.data.toList).getD [] = s
  go_wp2_with fail
  refine (known_h w2 (HT.out.below C2.out)).mono ?_
  rintro e w3 ⟨rfl, hb⟩
  have C3 := Aside0.mk (chain C2.out hb)
  clear hb
  go_wp2
  go_ret
  exact ⟨rfl, C3.out⟩
end Go.Proofs.YtpbnppfipinomaaDoor.Given
