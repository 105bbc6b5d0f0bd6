/- THE WALK OF THE LAW KeysPrefix: it returns true. Condition: the library's tables; the texts' sizes. -/
import Derived.Test.YtpbnppfipinomaaDoorKLaw
import Derived.Laws.Cover1
import Derived.Laws.DeepStrings4
namespace Go.Proofs.YtpbnppfipinomaaDoor.Given
open Go.RowKit Go.Shelf Go.Proofs.YtpbnppfipinomaaDoorW.PrintWords
set_option maxRecDepth 100000 in
set_option maxHeartbeats 1000000 in
theorem within_h (k lo hi : ByteArray) (o : Bool) (w : World) : Calls Tryd.prog 17 #[.string k, .string lo, .string hi, .bool o] w fun e w' => e = .returned (.bool (!(Op.bytesLess k.toList lo.toList) && (o || Op.bytesLess k.toList hi.toList))) ∧ Below w.heap.size w w' := by
  generalize hx : Op.bytesLess k.toList lo.toList = x
  generalize hy : Op.bytesLess k.toList hi.toList = y
  cases x <;> cases y <;> cases o
  all_goals
    go_enter Tryd.func17, Tryd.ntmps17
    go_wp2
    go_ret
    exact ⟨rfl, Below.refl _ _⟩
set_option maxRecDepth 100000 in
theorem begins_h (k p : ByteArray) (w : World) : Calls Tryd.prog 19 #[.string k, .string p] w fun e w' => e = .returned (.bool (p.data.toList.isPrefixOf k.data.toList)) ∧ Below w.heap.size w w' := by
  have cP : Calls Tryd.prog 24 #[.string k, .string p] w fun e w' => e = .returned (.bool (p.data.toList.isPrefixOf k.data.toList)) ∧ w' = w := Tryd.strings_HasPrefix k p w
  generalize p.data.toList.isPrefixOf k.data.toList = q at *
  go_enter Tryd.func19, Tryd.ntmps19
  go_wp2_with fail
  refine cP.mono ?_
  rintro e w1 ⟨rfl, rfl⟩
  go_wp2
  go_ret
  exact ⟨rfl, Below.refl _ _⟩
theorem isPrefixOf_take : ∀ (p k : List UInt8), p.isPrefixOf k = (k.take p.length == p)
  | [], k => by simp
  | a :: p, [] => by simp
  | a :: p, c :: k => by
    have h := isPrefixOf_take p k
    simp only [List.isPrefixOf, List.length_cons, List.take_succ_cons, h]
    by_cases hca : a = c
    · subst hca
      simp
    · have h1 : (a == c) = false := by simpa using hca
      have h2 : (c == a) = false := by simpa using Ne.symm hca
      simp [h1, Ne.symm hca]
theorem pre1 (k p : ByteArray) : ((k.extract 0 p.size).toList == p.toList) = p.data.toList.isPrefixOf k.data.toList := by
  rw [isPrefixOf_take, ByteArray.toList_eq, ByteArray.toList_eq]
  have : (k.extract 0 p.size).data.toList = k.data.toList.take p.data.toList.length := by
    simp
  rw [this]
theorem pre2 (k p : ByteArray) (h : k.size < p.size) : p.data.toList.isPrefixOf k.data.toList = false := by
  rw [isPrefixOf_take]
  have h1 : k.size = k.data.toList.length := rfl
  have h2 : p.size = p.data.toList.length := rfl
  rw [beq_eq_false_iff_ne]
  intro e
  have := congrArg List.length e
  rw [List.length_take] at this
  omega
set_option maxRecDepth 100000 in
set_option maxHeartbeats 1000000 in
theorem KeysPrefix_walk (p k : ByteArray) (w : World) (hs : p.size ≤ 140737488351232) (_ : k.size ≤ 140737488351232) (hT : Tabs w) : Calls Tryd.prog 9 #[.string p, .string k] w fun e w' => e = .returned (.bool true) ∧ Below w.heap.size w w' := by
  have HT := Aside0.mk hT
  clear hT
  have hw : (!(Op.bytesLess k.toList p.toList) && ((endL p.data.toList).isNone || Op.bytesLess k.toList (⟨((endL p.data.toList).getD []).toArray⟩ : ByteArray).toList)) = p.data.toList.isPrefixOf k.data.toList := by
    rw [ByteArray.toList_eq, ByteArray.toList_eq, ByteArray.toList_eq, ← Option.not_isSome]
    exact within_prefix p.data.toList k.data.toList
  have HW := Aside0.mk hw
  have hp1 := pre1 k p
  have HP1 := Aside0.mk hp1
  have hp2 := pre2 k p
  have HP2 := Aside0.mk hp2
  clear hw hp1 hp2
  by_cases hle : p.size ≤ k.size
  · have hd : decide ((p.size : Int) ≤ (k.size : Int)) = true := decide_eq_true (by omega)
    go_enter Tryd.func9, Tryd.ntmps9
    go_wp2_with fail
    refine (end_h p w (by omega)).mono ?_
    rintro e w1 ⟨rfl, hb⟩
    have C1 := Aside0.mk hb
    clear hb
    go_wp2_with fail
    refine (begins_h k p w1).mono ?_
    rintro e w2 ⟨rfl, hb⟩
    rw [HP1.out]
    have C2 := Aside0.mk (chain C1.out hb)
    clear hb
    go_wp2_with fail
    refine (within_h k p _ _ w2).mono ?_
    rintro e w3 ⟨rfl, hb⟩
    rw [HW.out]
    have C3 := Aside0.mk (chain C2.out hb)
    clear hb
    go_wp2_with fail
    refine (known_h w3 (HT.out.below C3.out)).mono ?_
    rintro e w4 ⟨rfl, hb⟩
    have C4 := Aside0.mk (chain C3.out hb)
    clear hb
    go_wp2
    go_ret
    exact ⟨rfl, C4.out⟩
  · have hd : decide ((p.size : Int) ≤ (k.size : Int)) = false := decide_eq_false (by omega)
    have hq := HP2.out (by omega)
    have HQ := Aside0.mk hq
    clear hq
    go_enter Tryd.func9, Tryd.ntmps9
    go_wp2_with fail
    refine (end_h p w (by omega)).mono ?_
    rintro e w1 ⟨rfl, hb⟩
    have C1 := Aside0.mk hb
    clear hb
    go_wp2_with fail
    refine (begins_h k p w1).mono ?_
    rintro e w2 ⟨rfl, hb⟩
    rw [HQ.out]
    have C2 := Aside0.mk (chain C1.out hb)
    clear hb
    go_wp2_with fail
    refine (within_h k p _ _ w2).mono ?_
    rintro e w3 ⟨rfl, hb⟩
    rw [HW.out, HQ.out]
    have C3 := Aside0.mk (chain C2.out hb)
    clear hb
    go_wp2_with fail
    refine (known_h w3 (HT.out.below C3.out)).mono ?_
    rintro e w4 ⟨rfl, hb⟩
    have C4 := Aside0.mk (chain C3.out hb)
    clear hb
    go_wp2
    go_ret
    exact ⟨rfl, C4.out⟩
end Go.Proofs.YtpbnppfipinomaaDoor.Given
