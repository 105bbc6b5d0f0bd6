/- THE CONTRACTS OF commonplaceref05.May, Begins AND Turn, OF TEXTS. No condition beyond what each says. -/
import Derived.Test.YtpbnppfipinomaaDoorRefAt
import Derived.Test.YtpbnppfipinomaaDoorKeysPrefixW
namespace Go.Proofs.YtpbnppfipinomaaDoor.Given
open Go.RowKit Go.Shelf Go.Proofs.YtpbnppfipinomaaDoorW.PrintWords
set_option linter.unusedVariables false
set_option maxRecDepth 100000 in
set_option maxHeartbeats 1000000 in
theorem refMay_h (s : ByteArray) (w : World) (hs : s.size ≤ 9223372036854775803) : Calls Tryd.prog 11 #[.string s] w fun e w' => e = .returned (.int .i64 (mayF s)) ∧ w' = w := by
  unfold mayF
  have cV := valid_h s w hs
  by_cases h1 : s.size = 0
  · rw [if_pos h1]
    have hd : ((s.size : Int) == 0) = true := beq_iff_eq.mpr (by omega)
    clear h1 cV
    go_enter Tryd.func11, Tryd.ntmps11
    go_wp2
    go_ret
    exact ⟨rfl, rfl⟩
  · rw [if_neg h1]
    have hd : ((s.size : Int) == 0) = false := beq_eq_false_iff_ne.mpr (by omega)
    by_cases h2 : 64 < s.size
    · rw [if_pos h2]
      have hd2 : decide ((64 : Int) < (s.size : Int)) = true := decide_eq_true (by omega)
      clear h1 cV
      go_enter Tryd.func11, Tryd.ntmps11
      go_wp2
      go_ret
      exact ⟨rfl, rfl⟩
    · rw [if_neg h2]
      have hd2 : decide ((64 : Int) < (s.size : Int)) = false := decide_eq_false (by omega)
      clear h1
      generalize Lib.validD s.data.toList = V at *
      have CV := Aside0.mk cV
      clear cV
      cases V
      · rw [if_neg Bool.false_ne_true]
        go_enter Tryd.func11, Tryd.ntmps11
        go_wp2_with fail
        refine CV.out.mono ?_
        rintro e w1 ⟨rfl, rfl⟩
        go_wp2
        go_ret
        exact ⟨rfl, rfl⟩
      · rw [if_pos rfl]
        go_enter Tryd.func11, Tryd.ntmps11
        go_wp2_with fail
        refine CV.out.mono ?_
        rintro e w1 ⟨rfl, rfl⟩
        go_wp2
        go_ret
        exact ⟨rfl, rfl⟩
theorem pre_iff (k p : ByteArray) (h : p.size ≤ k.size) : Lib.hasPrefix k.data.toList p.data.toList = true ↔ ∀ j, j < p.size → byteN k j = byteN p j := by
  have hk : k.size = k.data.toList.length := rfl
  have hp : p.size = p.data.toList.length := rfl
  have e : Lib.hasPrefix k.data.toList p.data.toList = (k.data.toList.take p.data.toList.length == p.data.toList) := isPrefixOf_take _ _
  have g : ∀ (s : ByteArray) (j : Nat) (hj : j < s.data.toList.length), byteN s j = (s.data.toList[j]).toNat := fun s j hj => (byteN_eq s j hj).symm
  rw [e, beq_iff_eq]
  constructor
  · intro he j hj
    rw [g k j (by omega), g p j (by omega)]
    have := congrArg (fun l => l[j]?) he
    simp only [List.getElem?_take, show j < p.data.toList.length from by omega, if_true] at this
    rw [List.getElem?_eq_getElem (by omega), List.getElem?_eq_getElem (by omega)] at this
    rw [Option.some.inj this]
  · intro hj
    apply List.ext_getElem
    · rw [List.length_take]; omega
    · intro j h1 h2
      rw [List.getElem_take]
      have := hj j (by omega)
      rw [g k j (by omega), g p j (by omega)] at this
      exact UInt8.toNat_inj.mp this
set_option maxRecDepth 100000 in
set_option maxHeartbeats 1000000 in
theorem refBegins_h (k p : ByteArray) (w : World) (hs : k.size ≤ 9223372036854775803) (hs2 : p.size ≤ 9223372036854775803) : Calls Tryd.prog 23 #[.string k, .string p] w fun e w' => e = .returned (.bool (Lib.hasPrefix k.data.toList p.data.toList)) ∧ Below w.heap.size w w' := by
  by_cases hle : p.size ≤ k.size
  · have HI := Aside0.mk (pre_iff k p hle)
    generalize Lib.hasPrefix k.data.toList p.data.toList = R at *
    have hd : decide ((k.size : Int) < (p.size : Int)) = false := decide_eq_false (by omega)
    go_enter Tryd.func23, Tryd.ntmps23
    go_wp2_with fail
    go_loopw [5] (fun ii wr => ∃ i : Nat, i ≤ p.size ∧ ii = .int .i64 i ∧ Aside0 (∀ j, j < i → byteN k j = byteN p j) ∧ Aside0 (Below w.heap.size w wr)) (fun ii _ => p.size - (intOf ii).toNat)
    case atStart => exact ⟨0, by omega, rfl, ⟨fun j h => by omega⟩, ⟨Below.refl _ _⟩⟩
    case round =>
      obtain ⟨i, hi, rfl, HJ, HB⟩ := hrel
      by_cases hlt : i < p.size
      · have hlt2 : i < k.size := by omega
        have HK := Aside0.mk (byteN_eq k i hlt2)
        have HP := Aside0.mk (byteN_eq p i hlt)
        by_cases he : byteN k i = byteN p i
        · have hd2 : ((k[i].toNat : Int) == (p[i].toNat : Int)) = true := beq_iff_eq.mpr (by rw [HK.out, HP.out, he])
          have hd3 : ((k[i].toNat : Int) != (p[i].toNat : Int)) = false := by rw [bne, hd2]; rfl
          have HE := Aside0.mk he
          clear he
          go_wp2_with fail
          go_region
          all_goals go_wp2
          all_goals refine ⟨⟨i + 1, by omega, by go_num, ⟨fun j h => by
            by_cases hj : j = i
            · rw [hj]; exact HE.out
            · exact HJ.out j (by omega)⟩, ⟨HB.out.drew⟩⟩, ?_⟩
          all_goals simp [intOf]
          all_goals omega
        · have hd3 : ((k[i].toNat : Int) != (p[i].toNat : Int)) = true := by
            rw [bne_iff_ne, HK.out, HP.out]
            omega
          have hR : R = false := by
            rw [← Bool.not_eq_true]
            exact fun h => he (HI.out.1 h i hlt)
          subst hR
          clear he
          go_wp2_with fail
          go_region
          all_goals go_wp2
          all_goals go_ret
          all_goals exact ⟨rfl, HB.out.drew⟩
      · obtain rfl : i = p.size := by omega
        have hR : R = true := HI.out.2 HJ.out
        subst hR
        go_wp2
        go_ret
        exact ⟨rfl, HB.out⟩
  · have hR : Lib.hasPrefix k.data.toList p.data.toList = false := pre2 k p (by omega)
    rw [hR]
    clear hR
    have hd : decide ((k.size : Int) < (p.size : Int)) = true := decide_eq_true (by omega)
    go_enter Tryd.func23, Tryd.ntmps23
    go_wp2
    go_ret
    exact ⟨rfl, Below.refl _ _⟩
theorem rest_eq (k fr : ByteArray) (h : Lib.hasPrefix k.data.toList fr.data.toList = true) : k.extract fr.size k.size = restF k fr := by
  unfold restF Lib.trimPrefix
  rw [if_pos h]
  apply ByteArray.ext
  apply Array.ext'
  have hz : k.size = k.data.toList.length := rfl
  simp
  rw [List.take_of_length_le (by rw [List.length_drop]; omega)]
theorem pre_size (k fr : ByteArray) (h : Lib.hasPrefix k.data.toList fr.data.toList = true) : fr.size ≤ k.size := by
  rcases Nat.lt_or_ge k.size fr.size with hlt | hge
  · exact absurd h (by rw [show Lib.hasPrefix k.data.toList fr.data.toList = false from pre2 k fr hlt]; exact Bool.false_ne_true)
  · exact hge
set_option maxRecDepth 100000 in
set_option maxHeartbeats 1000000 in
theorem refTurn_h (k fr tt : ByteArray) (w : World) (hs1 : k.size ≤ 9223372036854775803) (hs2 : fr.size ≤ 9223372036854775803) (hs : (tt ++ restF k fr).size ≤ 9223372036854775803) :
    Calls Tryd.prog 16 #[.string k, .string fr, .string tt] w fun e w' => e = .returned (.tuple #[.string (turnF k fr tt).1, .int .i64 (turnF k fr tt).2]) ∧ Below w.heap.size w w' := by
  have CB := Aside0.mk (refBegins_h k fr w hs1 hs2)
  unfold turnF
  by_cases hp : Lib.hasPrefix k.data.toList fr.data.toList = true
  · have hre := rest_eq k fr hp
    have hsz := pre_size k fr hp
    have CB2 : Aside0 (Calls Tryd.prog 23 #[.string k, .string fr] w fun e w' => e = .returned (.bool true) ∧ Below w.heap.size w w') := ⟨by have := CB.out; rw [hp] at this; exact this⟩
    rw [if_pos hp]
    clear hp CB
    have hadd : tt.size + (k.size - fr.size) ≤ 9223372036854775803 := by
      have h1 : (tt ++ restF k fr).size = tt.size + (restF k fr).size := by simp
      rw [h1, ← hre] at hs
      simpa using hs
    have HM := Aside0.mk (fun w => refMay_h (tt ++ restF k fr) w hs)
    have HRE := Aside0.mk hre
    clear hre hs
    by_cases hm : mayF (tt ++ restF k fr) = 0
    · rw [if_pos hm]
      have HM0 := Aside0.mk hm
      clear hm
      go_enter Tryd.func16, Tryd.ntmps16
      go_wp2_with fail
      refine CB2.out.mono ?_
      rintro e w1 ⟨rfl, hb⟩
      have C1 := Aside0.mk hb
      clear hb
      go_wp2_with fail
      rw [HRE.out]
      refine (HM.out _).mono ?_
      rintro e w2 ⟨rfl, rfl⟩
      rw [HM0.out]
      go_wp2
      go_ret2
      exact ⟨rfl, C1.out⟩
    · rw [if_neg hm]
      have hd : (mayF (tt ++ restF k fr) != 0) = true := by rw [bne_iff_ne]; exact hm
      clear hm
      go_enter Tryd.func16, Tryd.ntmps16
      go_wp2_with fail
      refine CB2.out.mono ?_
      rintro e w1 ⟨rfl, hb⟩
      have C1 := Aside0.mk hb
      clear hb
      go_wp2_with fail
      rw [HRE.out]
      refine (HM.out _).mono ?_
      rintro e w2 ⟨rfl, rfl⟩
      go_wp2
      go_ret2
      exact ⟨rfl, C1.out⟩
  · rw [if_neg hp]
    rw [Bool.not_eq_true] at hp
    have CB2 : Aside0 (Calls Tryd.prog 23 #[.string k, .string fr] w fun e w' => e = .returned (.bool false) ∧ Below w.heap.size w w') := ⟨by have := CB.out; rw [hp] at this; exact this⟩
    clear hp CB
    go_enter Tryd.func16, Tryd.ntmps16
    go_wp2_with fail
    refine CB2.out.mono ?_
    rintro e w1 ⟨rfl, hb⟩
    have C1 := Aside0.mk hb
    clear hb
    go_wp2
    go_ret2
    exact ⟨rfl, C1.out⟩
end Go.Proofs.YtpbnppfipinomaaDoor.Given
