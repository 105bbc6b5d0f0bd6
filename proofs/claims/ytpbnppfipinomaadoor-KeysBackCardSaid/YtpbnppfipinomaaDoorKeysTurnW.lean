/- THE WALK OF THE LAW KeysTurn: it returns true. Condition: the library's tables; the texts' sizes. -/
import Derived.Test.YtpbnppfipinomaaDoorKRefMay
namespace Go.Proofs.YtpbnppfipinomaaDoor.Given
open Go.RowKit Go.Shelf Go.Proofs.YtpbnppfipinomaaDoorW.PrintWords
set_option linter.unusedVariables false
theorem turn_size (k fr tt : ByteArray) (h1 : k.size ≤ 281474976702464) (h3 : tt.size ≤ 140737488351232) : (tt ++ restF k fr).size ≤ 9223372036854775803 := by
  have e : (tt ++ restF k fr).size = tt.size + (restF k fr).size := by simp
  have e2 : (restF k fr).size ≤ k.size := by
    unfold restF Lib.trimPrefix
    split
    · show (List.drop _ _).length ≤ k.data.toList.length
      rw [List.length_drop]; omega
    · exact Nat.le_refl _
  omega
set_option maxRecDepth 100000 in
set_option maxHeartbeats 2000000 in
theorem KeysTurn_walk (k fr tt : ByteArray) (w : World) (h1 : k.size ≤ 140737488351232) (h2 : fr.size ≤ 140737488351232) (h3 : tt.size ≤ 140737488351232) (hT : Tabs w) : Calls Tryd.prog 6 #[.string k, .string fr, .string tt] w fun e w' => e = .returned (.bool true) ∧ Below w.heap.size w w' := by
  have HT := Aside0.mk hT
  clear hT
  have HZ := Aside0.mk (turn_size k fr tt (by omega) h3)
  go_enter Tryd.func6, Tryd.ntmps6
  go_wp2_with fail
  refine (turn_h k fr tt w HT.out (by have := HZ.out; omega)).mono ?_
  rintro e1 w1 ⟨rfl, hb⟩
  have C1 := Aside0.mk hb
  clear hb
  go_wp2_with fail
  refine (refTurn_h k fr tt w1 (by omega) (by omega) HZ.out).mono ?_
  rintro e2 w2 ⟨rfl, hb⟩
  have C2 := Aside0.mk (chain C1.out hb)
  clear hb
  generalize (turnF k fr tt).1 = x
  generalize (turnF k fr tt).2 = y
  go_wp2_with fail
  refine (known_h w2 (HT.out.below C2.out)).mono ?_
  rintro e3 w3 ⟨rfl, hb⟩
  have C3 := Aside0.mk (chain C2.out hb)
  clear hb
  go_wp2
  go_ret
  exact ⟨rfl, C3.out⟩
end Go.Proofs.YtpbnppfipinomaaDoor.Given
