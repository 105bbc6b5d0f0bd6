/- THE CONTRACTS OF keys.Turn AND keys.End, OF TEXTS. No condition beyond what each says. -/
import Derived.Test.YtpbnppfipinomaaDoorKMay
namespace Go.Proofs.YtpbnppfipinomaaDoor.Given
open Go.RowKit Go.Shelf Go.Proofs.YtpbnppfipinomaaDoorW.PrintWords
theorem chain {w w1 w2 : World} (h : Below w.heap.size w w1) (k : Below w1.heap.size w1 w2) : Below w.heap.size w w2 := h.trans (k.mono h.size)
def restF (k fr : ByteArray) : ByteArray := ⟨(Lib.trimPrefix k.data.toList fr.data.toList).toArray⟩
def turnF (k fr tt : ByteArray) : ByteArray × Int :=
  if Lib.hasPrefix k.data.toList fr.data.toList = true then (if mayF (tt ++ restF k fr) = 0 then (tt ++ restF k fr, 0) else (ByteArray.empty, mayF (tt ++ restF k fr))) else (ByteArray.empty, 12)
set_option maxRecDepth 100000 in
set_option maxHeartbeats 1000000 in
theorem turn_h (k fr tt : ByteArray) (w : World) (hT : Tabs w) (hs : (tt ++ restF k fr).size ≤ 9223372036854775807) :
    Calls Tryd.prog 15 #[.string k, .string fr, .string tt] w fun e w' => e = .returned (.tuple #[.string (turnF k fr tt).1, .int .i64 (turnF k fr tt).2]) ∧ Below w.heap.size w w' := by
  have HT := Aside0.mk hT
  clear hT
  unfold turnF
  have cP := Tryd.strings_CutPrefix k fr w
  rw [show (⟨(Lib.trimPrefix k.data.toList fr.data.toList).toArray⟩ : ByteArray) = restF k fr from rfl] at cP
  generalize restF k fr = r at *
  have hsz : (tt ++ r).size = tt.size + r.size := by simp
  by_cases hp : Lib.hasPrefix k.data.toList fr.data.toList = true
  · rw [hp] at cP
    rw [if_pos hp]
    clear hp
    by_cases hm : mayF (tt ++ r) = 0
    · have hd : (mayF (tt ++ r) != 0) = false := by rw [hm]; rfl
      rw [if_pos hm]
      have HM := Aside0.mk hm
      clear hm
      go_enter Tryd.func15, Tryd.ntmps15
      go_wp2_with fail
      refine cP.mono ?_
      rintro e w1 ⟨rfl, rfl⟩
      go_wp2_with fail
      refine (may_h (tt ++ r) w1 (by omega) HT.out).mono ?_
      rintro e w2 ⟨rfl, hb⟩
      have HB := Aside0.mk hb
      clear hb
      go_wp2
      go_ret2
      exact ⟨rfl, HB.out⟩
    · have hd : (mayF (tt ++ r) != 0) = true := by rw [bne_iff_ne]; exact hm
      rw [if_neg hm]
      have HM := Aside0.mk hm
      clear hm
      go_enter Tryd.func15, Tryd.ntmps15
      go_wp2_with fail
      refine cP.mono ?_
      rintro e w1 ⟨rfl, rfl⟩
      go_wp2_with fail
      refine (may_h (tt ++ r) w1 (by omega) HT.out).mono ?_
      rintro e w2 ⟨rfl, hb⟩
      have HB := Aside0.mk hb
      clear hb
      go_wp2
      go_ret2
      exact ⟨rfl, HB.out⟩
  · rw [Bool.not_eq_true] at hp
    rw [hp] at cP ⊢
    rw [if_neg Bool.false_ne_true]
    clear hp
    go_enter Tryd.func15, Tryd.ntmps15
    go_wp2_with fail
    refine cP.mono ?_
    rintro e w1 ⟨rfl, rfl⟩
    go_wp2
    go_ret2
    exact ⟨rfl, Below.refl _ _⟩
end Go.Proofs.YtpbnppfipinomaaDoor.Given
