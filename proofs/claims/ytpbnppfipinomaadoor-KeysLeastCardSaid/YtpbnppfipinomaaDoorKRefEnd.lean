/- THE CONTRACT OF commonplaceref05.End, OF TEXTS. No condition beyond what it says. -/
import Derived.Test.YtpbnppfipinomaaDoorKKnown
namespace Go.Proofs.YtpbnppfipinomaaDoor.Given
open Go.RowKit Go.Shelf Go.Proofs.YtpbnppfipinomaaDoorW.PrintWords
set_option maxRecDepth 100000 in
set_option maxHeartbeats 1000000 in
theorem refEnd_h (p : ByteArray) (w : World) (hs : p.size ≤ 140737488355327) :
    Calls Tryd.prog 14 #[.string p] w fun e w' => e = .returned (.tuple #[.string ⟨((endL p.data.toList).getD []).toArray⟩, .bool (endL p.data.toList).isSome]) ∧ Below w.heap.size w w' := by
  obtain ⟨R, hR⟩ : ∃ R, endL p.data.toList = R := ⟨_, rfl⟩
  rw [hR]
  have HR := Aside0.mk hR
  clear hR
  go_enter Tryd.func14, Tryd.ntmps14
  go_wp2_with fail
  have hpl : p.size = p.data.toList.length := rfl
  generalize hP : p.data.toList = P at *
  have HP := Aside0.mk hP
  have HPL := Aside0.mk hpl
  clear hP hpl
  go_loopw [4] (fun kk wr => ∃ (j : Nat), j ≤ p.size ∧ kk = .int .i64 (j : Int) ∧ Aside0 (endL (P.take j) = R) ∧ wr = w) (fun kk _ => (intOf kk).toNat)
  case atStart => exact ⟨p.size, by omega, rfl, ⟨by rw [HPL.out, List.take_length]; exact HR.out⟩, rfl⟩
  case round =>
    obtain ⟨j, hj, rfl, HE, rfl⟩ := hrel
    cases j with
    | zero =>
      have he : R = none := by rw [← HE.out]; rfl
      subst he
      go_wp2
      go_ret2
      exact ⟨rfl, Below.refl _ _⟩
    | succ m =>
      have hk : (((m + 1 : Nat) : Int) - 1) = (m : Int) := by omega
      have hml : m < p.size := by omega
      have hb8 : p[m] = P[m]'(by rw [← HPL.out]; omega) := by
        have := HP.out
        subst this
        rfl
      have htk : P.take (m + 1) = P.take m ++ [P[m]'(by rw [← HPL.out]; omega)] := by rw [List.take_add_one, List.getElem?_eq_getElem (by rw [← HPL.out]; omega)]; rfl
      have hE := HE.out
      rw [htk, endL_all] at hE
      by_cases hb : P[m]'(by rw [← HPL.out]; omega) = 255
      · have hd : ((p[m].toNat : Int) == 255) = true := by rw [hb8, hb]; rfl
        rw [if_pos hb] at hE
        have HE2 := Aside0.mk hE
        clear hE htk hb hb8
        go_wp2_with fail
        refine ⟨⟨m, by omega, rfl, HE2, trivial⟩, ?_⟩
        simp [intOf]
      · have hd : ((p[m].toNat : Int) == 255) = false := beq_eq_false_iff_ne.mpr (fun e => hb (UInt8.toNat_inj.mp (by rw [← hb8]; simp; omega)))
        rw [if_neg hb] at hE
        subst hE
        clear htk hb hb8
        have hcv2 : (convert 41 9 (.slice (some ⟨wr.heap.size, 0, none⟩) 1 1)).run Tryd.prog ((wr.alloc (.cells #[.int .u8 (((p[m].toNat : Int) + 1) % 256)] 5)).drew) = .ok (.string ⟨#[p[m] + 1]⟩) ((wr.alloc (.cells #[.int .u8 (((p[m].toNat : Int) + 1) % 256)] 5)).drew) := by
          have h := run_convert_bytes_arg (P := Tryd.prog) ((wr.alloc (.cells #[.int .u8 (((p[m].toNat : Int) + 1) % 256)] 5)).drew) 41 5 Tryd.underlying41 Tryd.underlying5 wr.heap.size 0 1 1 [((p[m].toNat : Int) + 1) % 256] rfl (fun i hi => by
            obtain rfl : i = 0 := by omega
            exact World.cell?_alloc_new ..) 9 Tryd.underlying9
          have e : (((p[m] + 1 : UInt8).toNat : Nat) : Int) = ((p[m].toNat : Int) + 1) % 256 := by rw [UInt8.toNat_add]; simp
          rw [← e] at h ⊢
          rw [h]
          have e2 : strOfNums [((p[m] + 1 : UInt8).toNat : Int)] = ⟨#[p[m] + 1]⟩ := strOfNums_bytes [p[m] + 1]
          rw [e2]
        go_wp2_with fail
        go_region
        all_goals go_wp2
        all_goals go_ret2
        all_goals refine ⟨?_, ((Below.refl _ _).alloc (Nat.le_refl _) _).drew⟩
        all_goals
          have e3 : p.extract 0 m ++ ⟨#[p[m] + 1]⟩ = (⟨(P.take m ++ [P[m]'(by rw [← HPL.out]; omega) + 1]).toArray⟩ : ByteArray) := by
            have hP := HP.out
            subst hP
            apply ByteArray.ext
            apply Array.ext'
            simp
            rfl
          show Ending.returned (.tuple #[.string (p.extract 0 m ++ ⟨#[p[m] + 1]⟩), _]) = _
          rw [e3]
          rfl
end Go.Proofs.YtpbnppfipinomaaDoor.Given
