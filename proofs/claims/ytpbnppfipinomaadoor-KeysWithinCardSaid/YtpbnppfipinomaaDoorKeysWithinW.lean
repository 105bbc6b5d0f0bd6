/- THE WALK OF THE LAW KeysWithin: it returns true. No condition beyond the library's tables. -/
import Derived.Test.YtpbnppfipinomaaDoorKKnown
import Derived.Laws.Cover1
namespace Go.Proofs.YtpbnppfipinomaaDoor.Given
open Go.RowKit Go.Shelf Go.Proofs.YtpbnppfipinomaaDoorW.PrintWords
set_option maxRecDepth 100000 in
set_option maxHeartbeats 2000000 in
theorem KeysWithin_walk (k lo hi : ByteArray) (o : Bool) (w : World) (hT : Tabs w) : Calls Tryd.prog 8 #[.string k, .string lo, .string hi, .bool o] w fun e w' => e = .returned (.bool true) ∧ Below w.heap.size w w' := by
  have hK := known_h w hT
  clear hT
  obtain ⟨x, hx⟩ : ∃ x, Op.bytesLess k.toList lo.toList = x := ⟨_, rfl⟩
  obtain ⟨y, hy⟩ : ∃ y, Op.bytesLess k.toList hi.toList = y := ⟨_, rfl⟩
  cases x <;> cases y <;> cases o
  all_goals
    go_enter Tryd.func8, Tryd.ntmps8
    go_wp2_with (first | (go_at_call 12; refine hK.mono ?_; rintro e w' ⟨rfl, hb⟩) | go_in)
    go_ret
    exact ⟨rfl, hb⟩
end Go.Proofs.YtpbnppfipinomaaDoor.Given
