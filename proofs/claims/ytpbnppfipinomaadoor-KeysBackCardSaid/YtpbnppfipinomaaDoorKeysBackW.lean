/- THE WALK OF THE LAW KeysBack: it returns true. Condition: the library's tables; the texts' sizes. -/
import Derived.Test.YtpbnppfipinomaaDoorKeysTurnW
namespace Go.Proofs.YtpbnppfipinomaaDoor.Given
open Go.RowKit Go.Shelf Go.Proofs.YtpbnppfipinomaaDoorW.PrintWords
set_option linter.unusedVariables false
theorem pre_app (fr a : ByteArray) : Lib.hasPrefix (fr ++ a).data.toList fr.data.toList = true := by
  have h : fr.data.toList.isPrefixOf (fr ++ a).data.toList = true := by
    rw [isPrefixOf_take]
    simp
  exact h
theorem rest_app (fr a : ByteArray) : restF (fr ++ a) fr = a := by
  unfold restF Lib.trimPrefix
  rw [if_pos (pre_app fr a)]
  apply ByteArray.ext
  apply Array.ext'
  simp
theorem turn_app (fr a tt : ByteArray) : turnF (fr ++ a) fr tt = if mayF (tt ++ a) = 0 then (tt ++ a, 0) else (ByteArray.empty, mayF (tt ++ a)) := by
  unfold turnF
  rw [if_pos (pre_app fr a), rest_app]
theorem less_app : ∀ (p a b : List UInt8), Op.bytesLess (p ++ a) (p ++ b) = Op.bytesLess a b
  | [], _, _ => rfl
  | x :: p, a, b => by
    have hx : ¬ x < x := UInt8.lt_irrefl x
    simp only [List.cons_append, Op.bytesLess, hx]
    simpa using less_app p a b
theorem turnA_h (fr a tt : ByteArray) (w : World) (hT : Tabs w) (x : ByteArray) (y : Int) (h : turnF (fr ++ a) fr tt = (x, y)) (hs : (tt ++ a).size ≤ 9223372036854775807) :
    Calls Tryd.prog 15 #[.string (fr ++ a), .string fr, .string tt] w fun e w' => e = .returned (.tuple #[.string x, .int .i64 y]) ∧ Below w.heap.size w w' := by
  have c := turn_h (fr ++ a) fr tt w hT (by rw [rest_app]; exact hs)
  rw [h] at c
  exact c
set_option maxRecDepth 100000 in
set_option maxHeartbeats 2000000 in
theorem KeysBack_walk (fr tt a b : ByteArray) (w : World) (h1 : fr.size ≤ 140737488351232) (h2 : tt.size ≤ 140737488351232) (h3 : a.size ≤ 140737488351232) (h4 : b.size ≤ 140737488351232) (hT : Tabs w) : Calls Tryd.prog 7 #[.string fr, .string tt, .string a, .string b] w fun e w' => e = .returned (.bool true) ∧ Below w.heap.size w w' := by
  have HT := Aside0.mk hT
  clear hT
  have HZ1 := Aside0.mk (show (tt ++ a).size ≤ 9223372036854775807 by have e : (tt ++ a).size = tt.size + a.size := by simp
                                                                      omega)
  have HZ2 := Aside0.mk (show (tt ++ b).size ≤ 9223372036854775807 by have e : (tt ++ b).size = tt.size + b.size := by simp
                                                                      omega)
  have HZ3 := Aside0.mk (show (fr ++ a).size ≤ 9223372036854775807 by have e : (fr ++ a).size = fr.size + a.size := by simp
                                                                      omega)
  have HA := turn_app fr a tt
  have HB := turn_app fr b tt
  have HC := turn_app tt a fr
  have hlab : Op.bytesLess (tt ++ a).toList (tt ++ b).toList = Op.bytesLess a.toList b.toList := by
    rw [ByteArray.toList_eq, ByteArray.toList_eq, ByteArray.toList_eq, ByteArray.toList_eq]
    have := less_app tt.data.toList a.data.toList b.data.toList
    simpa using this
  by_cases he : mayF (tt ++ a) = 0
  · by_cases hm : mayF (fr ++ a) = 0
    · by_cases hf : mayF (tt ++ b) = 0
      · rw [if_pos he] at HA
        have hde : (mayF (tt ++ a) == 0) = true := by rw [he]; rfl
        rw [if_pos hf] at HB
        rw [if_pos hm] at HC
        have HM := Aside0.mk hm
        clear hm
        generalize hx : Op.bytesLess a.toList b.toList = x at *
        have TA := Aside0.mk HA
        have TB := Aside0.mk HB
        clear HA HB hf he
        have TC := Aside0.mk HC
        clear HC
        clear hde
        cases x
        · go_enter Tryd.func7, Tryd.ntmps7
          go_wp2_with fail
          refine (turnA_h fr a tt w HT.out _ _ TA.out HZ1.out).mono ?_
          rintro e1 w1 ⟨rfl, hb⟩
          have C1 := Aside0.mk hb
          clear hb
          go_wp2_with fail
          refine (turnA_h fr b tt w1 (HT.out.below C1.out) _ _ TB.out HZ2.out).mono ?_
          rintro e2 w2 ⟨rfl, hb⟩
          have C2 := Aside0.mk (chain C1.out hb)
          clear hb
          go_wp2_with fail
          refine (may_h (fr ++ a) w2 HZ3.out (HT.out.below C2.out)).mono ?_
          rintro e3 w3 ⟨rfl, hb⟩
          rw [HM.out]
          have C3 := Aside0.mk (chain C2.out hb)
          clear hb
          go_wp2_with fail
          refine (turnA_h tt a fr w3 (HT.out.below C3.out) _ _ TC.out HZ3.out).mono ?_
          rintro e4 w4 ⟨rfl, hb⟩
          have C4 := Aside0.mk (chain C3.out hb)
          clear hb
          go_wp2_with fail
          refine (known_h w4 (HT.out.below C4.out)).mono ?_
          rintro e5 w5 ⟨rfl, hb⟩
          have C5 := Aside0.mk (chain C4.out hb)
          clear hb
          go_wp2
          go_ret
          exact ⟨rfl, C5.out⟩
        · go_enter Tryd.func7, Tryd.ntmps7
          go_wp2_with fail
          refine (turnA_h fr a tt w HT.out _ _ TA.out HZ1.out).mono ?_
          rintro e1 w1 ⟨rfl, hb⟩
          have C1 := Aside0.mk hb
          clear hb
          go_wp2_with fail
          refine (turnA_h fr b tt w1 (HT.out.below C1.out) _ _ TB.out HZ2.out).mono ?_
          rintro e2 w2 ⟨rfl, hb⟩
          have C2 := Aside0.mk (chain C1.out hb)
          clear hb
          go_wp2_with fail
          refine (may_h (fr ++ a) w2 HZ3.out (HT.out.below C2.out)).mono ?_
          rintro e3 w3 ⟨rfl, hb⟩
          rw [HM.out]
          have C3 := Aside0.mk (chain C2.out hb)
          clear hb
          go_wp2_with fail
          refine (turnA_h tt a fr w3 (HT.out.below C3.out) _ _ TC.out HZ3.out).mono ?_
          rintro e4 w4 ⟨rfl, hb⟩
          have C4 := Aside0.mk (chain C3.out hb)
          clear hb
          go_wp2_with fail
          refine (known_h w4 (HT.out.below C4.out)).mono ?_
          rintro e5 w5 ⟨rfl, hb⟩
          have C5 := Aside0.mk (chain C4.out hb)
          clear hb
          go_wp2
          go_ret
          exact ⟨rfl, C5.out⟩
      · rw [if_pos he] at HA
        have hde : (mayF (tt ++ a) == 0) = true := by rw [he]; rfl
        rw [if_neg hf] at HB
        have hdf : (mayF (tt ++ b) == 0) = false := beq_eq_false_iff_ne.mpr hf
        clear hlab
        rw [if_pos hm] at HC
        have HM := Aside0.mk hm
        clear hm
        have TA := Aside0.mk HA
        have TB := Aside0.mk HB
        clear HA HB hf he
        have TC := Aside0.mk HC
        clear HC
        clear hde
        go_enter Tryd.func7, Tryd.ntmps7
        go_wp2_with fail
        refine (turnA_h fr a tt w HT.out _ _ TA.out HZ1.out).mono ?_
        rintro e1 w1 ⟨rfl, hb⟩
        have C1 := Aside0.mk hb
        clear hb
        go_wp2_with fail
        refine (turnA_h fr b tt w1 (HT.out.below C1.out) _ _ TB.out HZ2.out).mono ?_
        rintro e2 w2 ⟨rfl, hb⟩
        have C2 := Aside0.mk (chain C1.out hb)
        clear hb
        go_wp2_with fail
        refine (may_h (fr ++ a) w2 HZ3.out (HT.out.below C2.out)).mono ?_
        rintro e3 w3 ⟨rfl, hb⟩
        rw [HM.out]
        have C3 := Aside0.mk (chain C2.out hb)
        clear hb
        go_wp2_with fail
        refine (turnA_h tt a fr w3 (HT.out.below C3.out) _ _ TC.out HZ3.out).mono ?_
        rintro e4 w4 ⟨rfl, hb⟩
        have C4 := Aside0.mk (chain C3.out hb)
        clear hb
        go_wp2_with fail
        refine (known_h w4 (HT.out.below C4.out)).mono ?_
        rintro e5 w5 ⟨rfl, hb⟩
        have C5 := Aside0.mk (chain C4.out hb)
        clear hb
        go_wp2
        go_ret
        exact ⟨rfl, C5.out⟩
    · by_cases hf : mayF (tt ++ b) = 0
      · rw [if_pos he] at HA
        have hde : (mayF (tt ++ a) == 0) = true := by rw [he]; rfl
        rw [if_pos hf] at HB
        clear HC
        have hdm : (mayF (fr ++ a) == 0) = false := beq_eq_false_iff_ne.mpr hm
        clear hm
        generalize hx : Op.bytesLess a.toList b.toList = x at *
        have TA := Aside0.mk HA
        have TB := Aside0.mk HB
        clear HA HB hf he
        clear hde
        cases x
        · go_enter Tryd.func7, Tryd.ntmps7
          go_wp2_with fail
          refine (turnA_h fr a tt w HT.out _ _ TA.out HZ1.out).mono ?_
          rintro e1 w1 ⟨rfl, hb⟩
          have C1 := Aside0.mk hb
          clear hb
          go_wp2_with fail
          refine (turnA_h fr b tt w1 (HT.out.below C1.out) _ _ TB.out HZ2.out).mono ?_
          rintro e2 w2 ⟨rfl, hb⟩
          have C2 := Aside0.mk (chain C1.out hb)
          clear hb
          go_wp2_with fail
          refine (may_h (fr ++ a) w2 HZ3.out (HT.out.below C2.out)).mono ?_
          rintro e3 w3 ⟨rfl, hb⟩
          have C3 := Aside0.mk (chain C2.out hb)
          clear hb
          go_wp2_with fail
          refine (known_h w3 (HT.out.below C3.out)).mono ?_
          rintro e4 w4 ⟨rfl, hb⟩
          have C4 := Aside0.mk (chain C3.out hb)
          clear hb
          go_wp2
          go_ret
          exact ⟨rfl, C4.out⟩
        · go_enter Tryd.func7, Tryd.ntmps7
          go_wp2_with fail
          refine (turnA_h fr a tt w HT.out _ _ TA.out HZ1.out).mono ?_
          rintro e1 w1 ⟨rfl, hb⟩
          have C1 := Aside0.mk hb
          clear hb
          go_wp2_with fail
          refine (turnA_h fr b tt w1 (HT.out.below C1.out) _ _ TB.out HZ2.out).mono ?_
          rintro e2 w2 ⟨rfl, hb⟩
          have C2 := Aside0.mk (chain C1.out hb)
          clear hb
          go_wp2_with fail
          refine (may_h (fr ++ a) w2 HZ3.out (HT.out.below C2.out)).mono ?_
          rintro e3 w3 ⟨rfl, hb⟩
          have C3 := Aside0.mk (chain C2.out hb)
          clear hb
          go_wp2_with fail
          refine (known_h w3 (HT.out.below C3.out)).mono ?_
          rintro e4 w4 ⟨rfl, hb⟩
          have C4 := Aside0.mk (chain C3.out hb)
          clear hb
          go_wp2
          go_ret
          exact ⟨rfl, C4.out⟩
      · rw [if_pos he] at HA
        have hde : (mayF (tt ++ a) == 0) = true := by rw [he]; rfl
        rw [if_neg hf] at HB
        have hdf : (mayF (tt ++ b) == 0) = false := beq_eq_false_iff_ne.mpr hf
        clear hlab
        clear HC
        have hdm : (mayF (fr ++ a) == 0) = false := beq_eq_false_iff_ne.mpr hm
        clear hm
        have TA := Aside0.mk HA
        have TB := Aside0.mk HB
        clear HA HB hf he
        clear hde
        go_enter Tryd.func7, Tryd.ntmps7
        go_wp2_with fail
        refine (turnA_h fr a tt w HT.out _ _ TA.out HZ1.out).mono ?_
        rintro e1 w1 ⟨rfl, hb⟩
        have C1 := Aside0.mk hb
        clear hb
        go_wp2_with fail
        refine (turnA_h fr b tt w1 (HT.out.below C1.out) _ _ TB.out HZ2.out).mono ?_
        rintro e2 w2 ⟨rfl, hb⟩
        have C2 := Aside0.mk (chain C1.out hb)
        clear hb
        go_wp2_with fail
        refine (may_h (fr ++ a) w2 HZ3.out (HT.out.below C2.out)).mono ?_
        rintro e3 w3 ⟨rfl, hb⟩
        have C3 := Aside0.mk (chain C2.out hb)
        clear hb
        go_wp2_with fail
        refine (known_h w3 (HT.out.below C3.out)).mono ?_
        rintro e4 w4 ⟨rfl, hb⟩
        have C4 := Aside0.mk (chain C3.out hb)
        clear hb
        go_wp2
        go_ret
        exact ⟨rfl, C4.out⟩
  · rw [if_neg he] at HA
    have hde : (mayF (tt ++ a) == 0) = false := beq_eq_false_iff_ne.mpr he
    obtain ⟨⟨x2, y2⟩, hB⟩ : ∃ z, turnF (fr ++ b) fr tt = z := ⟨_, rfl⟩
    clear HB
    have HB := hB
    clear hB hlab
    clear HC
    have TA := Aside0.mk HA
    have TB := Aside0.mk HB
    clear HA HB he
    go_enter Tryd.func7, Tryd.ntmps7
    go_wp2_with fail
    refine (turnA_h fr a tt w HT.out _ _ TA.out HZ1.out).mono ?_
    rintro e1 w1 ⟨rfl, hb⟩
    have C1 := Aside0.mk hb
    clear hb
    go_wp2_with fail
    refine (turnA_h fr b tt w1 (HT.out.below C1.out) _ _ TB.out HZ2.out).mono ?_
    rintro e2 w2 ⟨rfl, hb⟩
    have C2 := Aside0.mk (chain C1.out hb)
    clear hb
    go_wp2_with fail
    refine (known_h w2 (HT.out.below C2.out)).mono ?_
    rintro e3 w3 ⟨rfl, hb⟩
    have C3 := Aside0.mk (chain C2.out hb)
    clear hb
    go_wp2
    go_ret
    exact ⟨rfl, C3.out⟩
end Go.Proofs.YtpbnppfipinomaaDoor.Given
