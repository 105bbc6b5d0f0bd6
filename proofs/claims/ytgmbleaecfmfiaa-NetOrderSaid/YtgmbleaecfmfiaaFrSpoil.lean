/- THE CONTRACT OF frame.Spoil, of bytes. No condition beyond the sizes that it says. -/
import Derived.Test.YtgmbleaecfmfiaaFrHand
import Derived.Laws.EntriesVeiled
namespace Go.Proofs.Ytgmbleaecfmfiaa.Given
open Go.RowKit Go.Proofs.YtgmbleaecfmfiaaW.PrintWords Go.Proofs.YtgmbleaecfmfiaaW.PrintLast Go.Proofs.YtgmbleaecfmfiaaW.PrintMore Go.Proofs.Ytgmbleaecfmfiaa.PS
theorem four_cells (w : World) (x0 x1 x2 : Value) (t0 t1 t2 t3 : TypeId) (y0 y1 y2 y3 : Value) (W : World) (hW : (((w.alloc (.cells #[x0] t0)).alloc (.cells #[x1] t1)).alloc (.cells #[x2] t2)).alloc (.cells #[y0, y1, y2, y3] t3) = W) :
    W.cell? ⟨w.heap.size, 0, none⟩ = some x0 ∧ W.cell? ⟨w.heap.size + 1, 0, none⟩ = some x1 ∧ W.cell? ⟨w.heap.size + 1 + 1, 0, none⟩ = some x2 ∧ (∀ i v, #[y0, y1, y2, y3][i]? = some v → W.cell? ⟨w.heap.size + 1 + 1 + 1, i, none⟩ = some v) := by
  subst hW
  refine ⟨by go_simp, by go_simp, by go_simp, fun i v h => ?_⟩
  match i, h with
  | 0, h => simp at h; subst h; go_simp
  | 1, h => simp at h; subst h; go_simp
  | 2, h => simp at h; subst h; go_simp
  | 3, h => simp at h; subst h; go_simp
  | n + 4, h => simp at h
def spoilF (at_ : Int) (m : UInt8) (bs : List UInt8) : List UInt8 × Int :=
  if at_ < 0 ∨ (bs.length : Int) ≤ at_ then ([], 17) else if m = 0 then ([], 2) else (bs.set at_.toNat (bs.getD at_.toNat 0 ^^^ m), 0)
set_option maxRecDepth 100000 in
theorem wrong1_h {w : World} {A : Option Addr} {n c : Nat} (p1 p2 : Addr) (at_ : Int) (q1 : w.cell? p1 = some (.int .i64 at_)) (q0 : w.cell? p2 = some (.slice A n c)) :
    Calls Try.prog 45 #[.pointer (some p1), .pointer (some p2)] w fun e w' => e = .returned (.bool (decide (at_ < 0) || decide ((n : Int) ≤ at_))) ∧ Below w.heap.size w w' := by
  by_cases h : at_ < 0
  · have hd : decide (at_ < 0) = true := decide_eq_true h
    rw [hd]
    go_enter Try.func45, Try.ntmps45
    go_wp2
    go_ret
    exact ⟨rfl, Below.refl _ _⟩
  · have hd : decide (at_ < 0) = false := decide_eq_false h
    rw [hd]
    by_cases h2 : (n : Int) ≤ at_
    · have hd2 : decide ((n : Int) ≤ at_) = true := decide_eq_true h2
      rw [hd2]
      go_enter Try.func45, Try.ntmps45
      go_wp2
      go_ret
      exact ⟨rfl, Below.refl _ _⟩
    · have hd2 : decide ((n : Int) ≤ at_) = false := decide_eq_false h2
      rw [hd2]
      go_enter Try.func45, Try.ntmps45
      go_wp2
      go_ret
      exact ⟨rfl, Below.refl _ _⟩
set_option maxRecDepth 100000 in
theorem wrong2_h {w : World} (p : Addr) (m : UInt8) (q : w.cell? p = some (.int .u8 (m.toNat : Int))) :
    Calls Try.prog 46 #[.pointer (some p)] w fun e w' => e = .returned (.bool (decide (m = 0))) ∧ Below w.heap.size w w' := by
  by_cases h : m = 0
  · have hd : ((m.toNat : Int) == 0) = true := by rw [h]; rfl
    rw [decide_eq_true h]
    clear h
    go_enter Try.func46, Try.ntmps46
    go_wp2
    go_ret
    exact ⟨rfl, Below.refl _ _⟩
  · have hd : ((m.toNat : Int) == 0) = false := beq_eq_false_iff_ne.mpr (fun e => h (UInt8.toNat_inj.mp (by simpa using e)))
    rw [decide_eq_false h]
    clear h
    go_enter Try.func46, Try.ntmps46
    go_wp2
    go_ret
    exact ⟨rfl, Below.refl _ _⟩
set_option maxRecDepth 100000 in
set_option maxHeartbeats 4000000 in
theorem spoil_h {w : World} {v : Value} {bs : List UInt8} (at_ : Int) (hat : -9223372036854775808 ≤ at_ ∧ at_ ≤ 9223372036854775807) (m : UInt8) (h : Rd w v bs) (hl : bs.length < 140737488355328) :
    Calls Try.prog 34 #[v, .int .i64 at_, .int .u8 (m.toNat : Int)] w fun e w' => ∃ v' : Value, e = .returned (.tuple #[v', .int .i64 (spoilF at_ m bs).2]) ∧ Own w' w.heap.size v' (spoilF at_ m bs).1 ∧ Below w.heap.size w w' := by
  have HV := Aside0.mk h
  obtain ⟨A, c, rfl, hc, hr⟩ := h
  have hr := trivial
  by_cases ha : at_ < 0 ∨ (bs.length : Int) ≤ at_
  · have hA : (decide (at_ < 0) || decide ((bs.length : Int) ≤ at_)) = true := by simp only [Bool.or_eq_true, decide_eq_true_eq]; exact ha
    have hsp : spoilF at_ m bs = ([], 17) := by unfold spoilF; rw [if_pos ha]
    rw [hsp]
    clear hsp
    go_enter Try.func34, Try.ntmps34
    go_wp2_with fail
    generalize hW0 : World.alloc _ _ = W0
    have hb0 : Below w.heap.size w W0 := by rw [← hW0]; exact ((((Below.refl _ _).alloc (Nat.le_refl _) _).alloc (by simp) _).alloc (by simp; omega) _).alloc (by simp; omega) _
    have hs0 : W0.heap.size = w.heap.size + 4 := by rw [← hW0]; simp
    obtain ⟨q0, q1, q2, q3⟩ := four_cells _ _ _ _ _ _ _ _ _ _ _ _ _ hW0
    have Q0 := Aside0.mk q0
    have Q1 := Aside0.mk q1
    have Q2 := Aside0.mk q2
    have Q3 := Aside0.mk (q3 0 _ rfl)
    have Q4 := Aside0.mk (q3 1 _ rfl)
    have Q5 := Aside0.mk (q3 2 _ rfl)
    have Q6 := Aside0.mk (q3 3 _ rfl)
    have B0 := Aside0.mk hb0
    clear hW0 q0 q1 q2 q3 hb0
    go_loopw [17] (fun k wr => ∃ j : Nat, j ≤ 0 ∧ k = .int .i64 j ∧ Aside0 (Below W0.heap.size W0 wr)) (fun k _ => 2 - (intOf k).toNat)
    case atStart => exact ⟨0, by omega, rfl, ⟨Below.refl _ _⟩⟩
    case round =>
      obtain ⟨j, hj, rfl, HB⟩ := hrel
      have q0 : wr.cell? ⟨w.heap.size, 0, none⟩ = some (.slice A bs.length c) := by rw [HB.out.cell (p := ⟨w.heap.size, 0, none⟩) (by simp; omega)]; exact Q0.out
      have q1 : wr.cell? ⟨w.heap.size + 1, 0, none⟩ = some (.int .i64 at_) := by rw [HB.out.cell (p := ⟨w.heap.size + 1, 0, none⟩) (by simp; omega)]; exact Q1.out
      have q2 : wr.cell? ⟨w.heap.size + 1 + 1, 0, none⟩ = some (.int .u8 (m.toNat : Int)) := by rw [HB.out.cell (p := ⟨w.heap.size + 1 + 1, 0, none⟩) (by simp; omega)]; exact Q2.out
      have q3 : wr.cell? ⟨w.heap.size + 1 + 1 + 1, 0, none⟩ = some (.func (.func 45) #[] #[.pointer (some ⟨w.heap.size + 1, 0, none⟩), .pointer (some ⟨w.heap.size, 0, none⟩)]) := by rw [HB.out.cell (p := ⟨w.heap.size + 1 + 1 + 1, 0, none⟩) (by simp; omega)]; exact Q3.out
      have q4 : wr.cell? ⟨w.heap.size + 1 + 1 + 1, 1, none⟩ = some (.int .i64 17) := by rw [HB.out.cell (p := ⟨w.heap.size + 1 + 1 + 1, 1, none⟩) (by simp; omega)]; exact Q4.out
      have q5 : wr.cell? ⟨w.heap.size + 1 + 1 + 1, 2, none⟩ = some (.func (.func 46) #[] #[.pointer (some ⟨w.heap.size + 1 + 1, 0, none⟩)]) := by rw [HB.out.cell (p := ⟨w.heap.size + 1 + 1 + 1, 2, none⟩) (by simp; omega)]; exact Q5.out
      have q6 : wr.cell? ⟨w.heap.size + 1 + 1 + 1, 3, none⟩ = some (.int .i64 2) := by rw [HB.out.cell (p := ⟨w.heap.size + 1 + 1 + 1, 3, none⟩) (by simp; omega)]; exact Q6.out
      have hsr : w.heap.size + 4 ≤ wr.heap.size := by have := HB.out.size; omega
      obtain rfl : j = 0 := by omega
      go_wp2_with fail
      generalize hW1 : World.alloc _ _ = W1
      have hb1 : Below wr.heap.size wr W1 := by rw [← hW1]; exact (Below.refl _ _).alloc (Nat.le_refl _) _
      have hs1 : W1.heap.size = wr.heap.size + 1 := by rw [← hW1]; simp
      have r1 : W1.cell? ⟨wr.heap.size, 1, none⟩ = some (.int .i64 17) := by rw [← hW1]; exact World.cell?_alloc_new ..
      have B1 := Aside0.mk hb1
      have R1 := Aside0.mk r1
      clear hW1 r1
      refine (wrong1_h (A := A) (n := bs.length) (c := c) _ _ at_ (by rw [hb1.cell (p := ⟨w.heap.size + 1, 0, none⟩) (by simp; omega)]; exact q1) (by rw [hb1.cell (p := ⟨w.heap.size, 0, none⟩) (by simp; omega)]; exact q0)).mono ?_
      rintro e W2 ⟨rfl, hb2⟩
      have B2 := Aside0.mk (chain hb1 hb2)
      have r2 : W2.cell? ⟨wr.heap.size, 1, none⟩ = some (.int .i64 17) := by rw [hb2.cell (p := ⟨wr.heap.size, 1, none⟩) (by simp; omega)]; exact R1.out
      clear hb1 hb2
      rw [hA]
      go_wp2_with fail
      go_region
      all_goals go_wp2
      all_goals go_ret2
      all_goals exact ⟨_, rfl, Own.nil _ _, B0.out.trans ((HB.out.trans (B2.out.mono (by omega))).drew.mono (by omega))⟩
  · by_cases hm : m = 0
    · have hA : (decide (at_ < 0) || decide ((bs.length : Int) ≤ at_)) = false := by simp only [Bool.or_eq_false_iff, decide_eq_false_iff_not]; exact not_or.mp ha
      have hsp : spoilF at_ m bs = ([], 2) := by unfold spoilF; rw [if_neg ha, if_pos hm]
      rw [hsp]
      clear hsp
      have HM := Aside0.mk hm
      clear hm
      go_enter Try.func34, Try.ntmps34
      go_wp2_with fail
      generalize hW0 : World.alloc _ _ = W0
      have hb0 : Below w.heap.size w W0 := by rw [← hW0]; exact ((((Below.refl _ _).alloc (Nat.le_refl _) _).alloc (by simp) _).alloc (by simp; omega) _).alloc (by simp; omega) _
      have hs0 : W0.heap.size = w.heap.size + 4 := by rw [← hW0]; simp
      obtain ⟨q0, q1, q2, q3⟩ := four_cells _ _ _ _ _ _ _ _ _ _ _ _ _ hW0
      have Q0 := Aside0.mk q0
      have Q1 := Aside0.mk q1
      have Q2 := Aside0.mk q2
      have Q3 := Aside0.mk (q3 0 _ rfl)
      have Q4 := Aside0.mk (q3 1 _ rfl)
      have Q5 := Aside0.mk (q3 2 _ rfl)
      have Q6 := Aside0.mk (q3 3 _ rfl)
      have B0 := Aside0.mk hb0
      clear hW0 q0 q1 q2 q3 hb0
      go_loopw [17] (fun k wr => ∃ j : Nat, j ≤ 1 ∧ k = .int .i64 j ∧ Aside0 (Below W0.heap.size W0 wr)) (fun k _ => 2 - (intOf k).toNat)
      case atStart => exact ⟨0, by omega, rfl, ⟨Below.refl _ _⟩⟩
      case round =>
        obtain ⟨j, hj, rfl, HB⟩ := hrel
        have q0 : wr.cell? ⟨w.heap.size, 0, none⟩ = some (.slice A bs.length c) := by rw [HB.out.cell (p := ⟨w.heap.size, 0, none⟩) (by simp; omega)]; exact Q0.out
        have q1 : wr.cell? ⟨w.heap.size + 1, 0, none⟩ = some (.int .i64 at_) := by rw [HB.out.cell (p := ⟨w.heap.size + 1, 0, none⟩) (by simp; omega)]; exact Q1.out
        have q2 : wr.cell? ⟨w.heap.size + 1 + 1, 0, none⟩ = some (.int .u8 (m.toNat : Int)) := by rw [HB.out.cell (p := ⟨w.heap.size + 1 + 1, 0, none⟩) (by simp; omega)]; exact Q2.out
        have q3 : wr.cell? ⟨w.heap.size + 1 + 1 + 1, 0, none⟩ = some (.func (.func 45) #[] #[.pointer (some ⟨w.heap.size + 1, 0, none⟩), .pointer (some ⟨w.heap.size, 0, none⟩)]) := by rw [HB.out.cell (p := ⟨w.heap.size + 1 + 1 + 1, 0, none⟩) (by simp; omega)]; exact Q3.out
        have q4 : wr.cell? ⟨w.heap.size + 1 + 1 + 1, 1, none⟩ = some (.int .i64 17) := by rw [HB.out.cell (p := ⟨w.heap.size + 1 + 1 + 1, 1, none⟩) (by simp; omega)]; exact Q4.out
        have q5 : wr.cell? ⟨w.heap.size + 1 + 1 + 1, 2, none⟩ = some (.func (.func 46) #[] #[.pointer (some ⟨w.heap.size + 1 + 1, 0, none⟩)]) := by rw [HB.out.cell (p := ⟨w.heap.size + 1 + 1 + 1, 2, none⟩) (by simp; omega)]; exact Q5.out
        have q6 : wr.cell? ⟨w.heap.size + 1 + 1 + 1, 3, none⟩ = some (.int .i64 2) := by rw [HB.out.cell (p := ⟨w.heap.size + 1 + 1 + 1, 3, none⟩) (by simp; omega)]; exact Q6.out
        have hsr : w.heap.size + 4 ≤ wr.heap.size := by have := HB.out.size; omega
        rcases (show j = 0 ∨ j = 1 by omega) with rfl | rfl
        · go_wp2_with fail
          generalize hW1 : World.alloc _ _ = W1
          have hb1 : Below wr.heap.size wr W1 := by rw [← hW1]; exact (Below.refl _ _).alloc (Nat.le_refl _) _
          have hs1 : W1.heap.size = wr.heap.size + 1 := by rw [← hW1]; simp
          have r1 : W1.cell? ⟨wr.heap.size, 1, none⟩ = some (.int .i64 17) := by rw [← hW1]; exact World.cell?_alloc_new ..
          have B1 := Aside0.mk hb1
          have R1 := Aside0.mk r1
          clear hW1 r1
          refine (wrong1_h (A := A) (n := bs.length) (c := c) _ _ at_ (by rw [hb1.cell (p := ⟨w.heap.size + 1, 0, none⟩) (by simp; omega)]; exact q1) (by rw [hb1.cell (p := ⟨w.heap.size, 0, none⟩) (by simp; omega)]; exact q0)).mono ?_
          rintro e W2 ⟨rfl, hb2⟩
          have B2 := Aside0.mk (chain hb1 hb2)
          have r2 : W2.cell? ⟨wr.heap.size, 1, none⟩ = some (.int .i64 17) := by rw [hb2.cell (p := ⟨wr.heap.size, 1, none⟩) (by simp; omega)]; exact R1.out
          clear hb1 hb2
          rw [hA]
          go_wp2_with fail
          go_roundw
          case rel => exact ⟨1, by omega, by go_num, ⟨HB.out.trans (B2.out.mono (by omega))⟩⟩
          case measure => simp [intOf]
        · go_wp2_with fail
          generalize hW1 : World.alloc _ _ = W1
          have hb1 : Below wr.heap.size wr W1 := by rw [← hW1]; exact (Below.refl _ _).alloc (Nat.le_refl _) _
          have hs1 : W1.heap.size = wr.heap.size + 1 := by rw [← hW1]; simp
          have r1 : W1.cell? ⟨wr.heap.size, 1, none⟩ = some (.int .i64 2) := by rw [← hW1]; exact World.cell?_alloc_new ..
          have B1 := Aside0.mk hb1
          have R1 := Aside0.mk r1
          clear hW1 r1
          refine (wrong2_h _ m (by rw [hb1.cell (p := ⟨w.heap.size + 1 + 1, 0, none⟩) (by simp; omega)]; exact q2)).mono ?_
          rintro e W2 ⟨rfl, hb2⟩
          have B2 := Aside0.mk (chain hb1 hb2)
          have r2 : W2.cell? ⟨wr.heap.size, 1, none⟩ = some (.int .i64 2) := by rw [hb2.cell (p := ⟨wr.heap.size, 1, none⟩) (by simp; omega)]; exact R1.out
          clear hb1 hb2
          rw [decide_eq_true HM.out]
          go_wp2_with fail
          go_region
          all_goals go_wp2
          all_goals go_ret2
          all_goals exact ⟨_, rfl, Own.nil _ _, B0.out.trans ((HB.out.trans (B2.out.mono (by omega))).drew.mono (by omega))⟩
    · have hA : (decide (at_ < 0) || decide ((bs.length : Int) ≤ at_)) = false := by simp only [Bool.or_eq_false_iff, decide_eq_false_iff_not]; exact not_or.mp ha
      obtain ⟨a, rfl⟩ := Int.eq_ofNat_of_zero_le (show 0 ≤ at_ by omega)
      have hal : a < bs.length := by omega
      have hsp : spoilF (a : Int) m bs = (bs.set a (bs[a] ^^^ m), 0) := by unfold spoilF; rw [if_neg ha, if_neg hm, Int.toNat_natCast]; simp [List.getD, List.getElem?_eq_getElem hal]
      rw [hsp]
      clear hsp
      have HM := Aside0.mk hm
      clear hm
      go_enter Try.func34, Try.ntmps34
      go_wp2_with fail
      generalize hW0 : World.alloc _ _ = W0
      have hb0 : Below w.heap.size w W0 := by rw [← hW0]; exact ((((Below.refl _ _).alloc (Nat.le_refl _) _).alloc (by simp) _).alloc (by simp; omega) _).alloc (by simp; omega) _
      have hs0 : W0.heap.size = w.heap.size + 4 := by rw [← hW0]; simp
      obtain ⟨q0, q1, q2, q3⟩ := four_cells _ _ _ _ _ _ _ _ _ _ _ _ _ hW0
      have Q0 := Aside0.mk q0
      have Q1 := Aside0.mk q1
      have Q2 := Aside0.mk q2
      have Q3 := Aside0.mk (q3 0 _ rfl)
      have Q4 := Aside0.mk (q3 1 _ rfl)
      have Q5 := Aside0.mk (q3 2 _ rfl)
      have Q6 := Aside0.mk (q3 3 _ rfl)
      have B0 := Aside0.mk hb0
      clear hW0 q0 q1 q2 q3 hb0
      go_loopw [17] (fun k wr => ∃ j : Nat, j ≤ 2 ∧ k = .int .i64 j ∧ Aside0 (Below W0.heap.size W0 wr)) (fun k _ => 2 - (intOf k).toNat)
      case atStart => exact ⟨0, by omega, rfl, ⟨Below.refl _ _⟩⟩
      case round =>
        obtain ⟨j, hj, rfl, HB⟩ := hrel
        have q0 : wr.cell? ⟨w.heap.size, 0, none⟩ = some (.slice A bs.length c) := by rw [HB.out.cell (p := ⟨w.heap.size, 0, none⟩) (by simp; omega)]; exact Q0.out
        have q1 : wr.cell? ⟨w.heap.size + 1, 0, none⟩ = some (.int .i64 (a : Int)) := by rw [HB.out.cell (p := ⟨w.heap.size + 1, 0, none⟩) (by simp; omega)]; exact Q1.out
        have q2 : wr.cell? ⟨w.heap.size + 1 + 1, 0, none⟩ = some (.int .u8 (m.toNat : Int)) := by rw [HB.out.cell (p := ⟨w.heap.size + 1 + 1, 0, none⟩) (by simp; omega)]; exact Q2.out
        have q3 : wr.cell? ⟨w.heap.size + 1 + 1 + 1, 0, none⟩ = some (.func (.func 45) #[] #[.pointer (some ⟨w.heap.size + 1, 0, none⟩), .pointer (some ⟨w.heap.size, 0, none⟩)]) := by rw [HB.out.cell (p := ⟨w.heap.size + 1 + 1 + 1, 0, none⟩) (by simp; omega)]; exact Q3.out
        have q4 : wr.cell? ⟨w.heap.size + 1 + 1 + 1, 1, none⟩ = some (.int .i64 17) := by rw [HB.out.cell (p := ⟨w.heap.size + 1 + 1 + 1, 1, none⟩) (by simp; omega)]; exact Q4.out
        have q5 : wr.cell? ⟨w.heap.size + 1 + 1 + 1, 2, none⟩ = some (.func (.func 46) #[] #[.pointer (some ⟨w.heap.size + 1 + 1, 0, none⟩)]) := by rw [HB.out.cell (p := ⟨w.heap.size + 1 + 1 + 1, 2, none⟩) (by simp; omega)]; exact Q5.out
        have q6 : wr.cell? ⟨w.heap.size + 1 + 1 + 1, 3, none⟩ = some (.int .i64 2) := by rw [HB.out.cell (p := ⟨w.heap.size + 1 + 1 + 1, 3, none⟩) (by simp; omega)]; exact Q6.out
        have hsr : w.heap.size + 4 ≤ wr.heap.size := by have := HB.out.size; omega
        rcases (show j = 0 ∨ j = 1 ∨ j = 2 by omega) with rfl | rfl | rfl
        · go_wp2_with fail
          generalize hW1 : World.alloc _ _ = W1
          have hb1 : Below wr.heap.size wr W1 := by rw [← hW1]; exact (Below.refl _ _).alloc (Nat.le_refl _) _
          have hs1 : W1.heap.size = wr.heap.size + 1 := by rw [← hW1]; simp
          have r1 : W1.cell? ⟨wr.heap.size, 1, none⟩ = some (.int .i64 17) := by rw [← hW1]; exact World.cell?_alloc_new ..
          have B1 := Aside0.mk hb1
          have R1 := Aside0.mk r1
          clear hW1 r1
          refine (wrong1_h (A := A) (n := bs.length) (c := c) _ _ (a : Int) (by rw [hb1.cell (p := ⟨w.heap.size + 1, 0, none⟩) (by simp; omega)]; exact q1) (by rw [hb1.cell (p := ⟨w.heap.size, 0, none⟩) (by simp; omega)]; exact q0)).mono ?_
          rintro e W2 ⟨rfl, hb2⟩
          have B2 := Aside0.mk (chain hb1 hb2)
          have r2 : W2.cell? ⟨wr.heap.size, 1, none⟩ = some (.int .i64 17) := by rw [hb2.cell (p := ⟨wr.heap.size, 1, none⟩) (by simp; omega)]; exact R1.out
          clear hb1 hb2
          rw [hA]
          go_wp2_with fail
          go_roundw
          case rel => exact ⟨1, by omega, by go_num, ⟨HB.out.trans (B2.out.mono (by omega))⟩⟩
          case measure => simp [intOf]
        · go_wp2_with fail
          generalize hW1 : World.alloc _ _ = W1
          have hb1 : Below wr.heap.size wr W1 := by rw [← hW1]; exact (Below.refl _ _).alloc (Nat.le_refl _) _
          have hs1 : W1.heap.size = wr.heap.size + 1 := by rw [← hW1]; simp
          have r1 : W1.cell? ⟨wr.heap.size, 1, none⟩ = some (.int .i64 2) := by rw [← hW1]; exact World.cell?_alloc_new ..
          have B1 := Aside0.mk hb1
          have R1 := Aside0.mk r1
          clear hW1 r1
          refine (wrong2_h _ m (by rw [hb1.cell (p := ⟨w.heap.size + 1 + 1, 0, none⟩) (by simp; omega)]; exact q2)).mono ?_
          rintro e W2 ⟨rfl, hb2⟩
          have B2 := Aside0.mk (chain hb1 hb2)
          have r2 : W2.cell? ⟨wr.heap.size, 1, none⟩ = some (.int .i64 2) := by rw [hb2.cell (p := ⟨wr.heap.size, 1, none⟩) (by simp; omega)]; exact R1.out
          clear hb1 hb2
          rw [decide_eq_false HM.out]
          go_wp2_with fail
          go_roundw
          case rel => exact ⟨2, by omega, by go_num, ⟨HB.out.trans (B2.out.mono (by omega))⟩⟩
          case measure => simp [intOf]
        · have hcl := HV.out.below (B0.out.trans (HB.out.mono (by omega)))
          go_wp2_with fail
          refine (clone_h hcl (by omega)).mono ?_
          rintro e w6 ⟨v6, rfl, ho6, hb6⟩
          obtain ⟨g, cap, rfl, hg⟩ := ho6.form (by omega)
          have p1 : w6.cell? ⟨w.heap.size + 1, 0, none⟩ = some (.int .i64 (a : Int)) := by rw [hb6.cell (p := ⟨w.heap.size + 1, 0, none⟩) (by simp; omega)]; exact q1
          have p2 : w6.cell? ⟨w.heap.size + 1 + 1, 0, none⟩ = some (.int .u8 (m.toNat : Int)) := by rw [hb6.cell (p := ⟨w.heap.size + 1 + 1, 0, none⟩) (by simp; omega)]; exact q2
          have hce := ho6.cell a hal
          have hfz := ho6.free a
          have hput := ho6.put a (bs[a] ^^^ m)
          have hxor : bits .xor .u8 (bs[a].toNat : Int) (m.toNat : Int) = (((bs[a] ^^^ m).toNat : Nat) : Int) := by
            rw [u8_xor_nat _ _ (bs[a].toNat_lt) (m.toNat_lt), UInt8.toNat_xor]
          have HPUT := Aside0.mk hput
          have HX := Aside0.mk hxor
          have HB6 := Aside0.mk (B0.out.trans ((HB.out.trans (hb6.mono (by omega))).mono (by omega)))
          have hg2 : w.heap.size ≤ g := by omega
          have hgne1 : w.heap.size + 1 ≠ g := by omega
          have hgne2 : w.heap.size + 1 + 1 ≠ g := by omega
          clear q0 q1 q2 q3 q4 q5 q6 ho6 hb6 hcl hput hxor
          go_wp2_with fail
          go_region
          all_goals go_wp2
          all_goals go_ret2
          all_goals refine ⟨.slice (some ⟨g, 0, none⟩) bs.length cap, rfl, ?_, ?_⟩
          · rw [HX.out]
            exact Own.below (HPUT.out.lower (by omega)) (Below.refl _ _).drew
          · exact (HB6.out.setCell (p := ⟨g, a, none⟩) hg2 _).drew
end Go.Proofs.Ytgmbleaecfmfiaa.Given
