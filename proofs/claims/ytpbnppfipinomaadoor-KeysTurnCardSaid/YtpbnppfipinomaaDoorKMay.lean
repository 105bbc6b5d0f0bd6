/- THE CONTRACTS OF keys.rules' FUNCTIONS AND OF keys.May, OF TEXTS: for the laws that are walked by hand. No condition beyond what each says. WRITTEN BY wip/tools/keysgen.py -/
import Derived.Test.YtpbnppfipinomaaDoorShelf
import Derived.WalkKit
import Derived.Below
import Derived.Laws.EntriesVeiled
import Derived.Test.YtpbnppfipinomaaDoorWWords
namespace Go.Proofs.YtpbnppfipinomaaDoor.Given
open Go.RowKit Go.Shelf Go.Proofs.YtpbnppfipinomaaDoorW.PrintWords
/-- the library's two tables are as their texts lay them -/
def Tabs (w : World) : Prop := Lib.Utf8Tabs (Tryd.laysValid_ren.g 3) (Tryd.laysValid_ren.g 4) w
theorem Tabs.below {w w1 : World} (h : Tabs w) (hb : Below w.heap.size w w1) : Tabs w1 := Utf8Tabs_below h hb
def mayF (s : ByteArray) : Int := if s.size = 0 then 8 else if 64 < s.size then 6 else if Lib.validD s.data.toList = true then 0 else 3
theorem isEmpty_size (s : ByteArray) : s.toList.isEmpty = decide (s.size = 0) := by
  have h : s.size = s.data.toList.length := rfl
  rw [ByteArray.toList_eq, h]
  cases s.data.toList <;> simp
set_option maxRecDepth 100000 in
theorem rule1_h (s : ByteArray) (w : World) : Calls Tryd.prog 25 #[.string s] w fun e w' => e = .returned (.bool (decide (s.size = 0))) ∧ Below w.heap.size w w' := by
  have he := isEmpty_size s
  generalize decide (s.size = 0) = q at *
  go_enter Tryd.func25, Tryd.ntmps25
  go_wp2
  go_ret
  first
    | exact ⟨by rw [he], Below.refl _ _⟩
    | exact ⟨rfl, Below.refl _ _⟩
set_option maxRecDepth 100000 in
theorem rule2_h (s : ByteArray) (w : World) : Calls Tryd.prog 26 #[.string s] w fun e w' => e = .returned (.bool (decide (64 < s.size))) ∧ Below w.heap.size w w' := by
  by_cases h : 64 < s.size
  · rw [decide_eq_true h]
    have hd : decide ((64 : Int) < (s.size : Int)) = true := decide_eq_true (by omega)
    go_enter Tryd.func26, Tryd.ntmps26
    go_wp2
    go_ret
    exact ⟨rfl, Below.refl _ _⟩
  · rw [decide_eq_false h]
    have hd : decide ((64 : Int) < (s.size : Int)) = false := decide_eq_false (by omega)
    go_enter Tryd.func26, Tryd.ntmps26
    go_wp2
    go_ret
    exact ⟨rfl, Below.refl _ _⟩
set_option maxRecDepth 100000 in
theorem rule3_h (s : ByteArray) (w : World) (hs : s.size ≤ 9223372036854775807) (hT : Tabs w) : Calls Tryd.prog 27 #[.string s] w fun e w' => e = .returned (.bool (!Lib.validD s.data.toList)) ∧ Below w.heap.size w w' := by
  have cV : Calls Tryd.prog 32 #[.string s] w _ := Any.utf8_ValidString Tryd.laysValid s w hs hT
  generalize Lib.validD s.data.toList = V at *
  go_enter Tryd.func27, Tryd.ntmps27
  go_wp2_with (first | (go_at_call 32; refine cV.mono ?_; rintro e w' ⟨rfl, hb⟩) | go_in)
  go_ret
  exact ⟨rfl, hb⟩
theorem three_cells (w : World) (t : TypeId) (y0 y1 y2 y3 y4 y5 : Value) (W : World) (hW : w.alloc (.cells #[y0, y1, y2, y3, y4, y5] t) = W) :
    ∀ i v, #[y0, y1, y2, y3, y4, y5][i]? = some v → W.cell? ⟨w.heap.size, i, none⟩ = some v := by
  subst hW
  intro i v h
  match i, h with
  | 0, h => simp at h; subst h; go_simp
  | 1, h => simp at h; subst h; go_simp
  | 2, h => simp at h; subst h; go_simp
  | 3, h => simp at h; subst h; go_simp
  | 4, h => simp at h; subst h; go_simp
  | 5, h => simp at h; subst h; go_simp
  | n + 6, h => simp at h
set_option maxRecDepth 100000 in
set_option maxHeartbeats 4000000 in
theorem may_h (s : ByteArray) (w : World) (hs : s.size ≤ 9223372036854775807) (hT : Tabs w) : Calls Tryd.prog 10 #[.string s] w fun e w' => e = .returned (.int .i64 (mayF s)) ∧ Below w.heap.size w w' := by
  have HT := Aside0.mk hT
  clear hT
  unfold mayF
  by_cases h1 : s.size = 0
  · have HA := Aside0.mk h1
    rw [if_pos h1]
    clear h1
    go_enter Tryd.func10, Tryd.ntmps10
    go_wp2_with go_in
    generalize hW0 : World.alloc _ _ = W0
    have hb0 : Below w.heap.size w W0 := by rw [← hW0]; exact (Below.refl _ _).alloc (Nat.le_refl _) _
    have hs0 : W0.heap.size = w.heap.size + 1 := by rw [← hW0]; simp
    have q3 := three_cells _ _ _ _ _ _ _ _ _ hW0
    have Q0 := Aside0.mk (q3 0 _ rfl)
    have Q1 := Aside0.mk (q3 1 _ rfl)
    have Q2 := Aside0.mk (q3 2 _ rfl)
    have Q3 := Aside0.mk (q3 3 _ rfl)
    have Q4 := Aside0.mk (q3 4 _ rfl)
    have Q5 := Aside0.mk (q3 5 _ rfl)
    have B0 := Aside0.mk hb0
    clear hW0 q3 hb0
    go_loopw [7] (fun kk wr => ∃ j : Nat, j ≤ 0 ∧ kk = .int .i64 j ∧ Aside0 (Below W0.heap.size W0 wr)) (fun kk _ => 4 - (intOf kk).toNat)
    case atStart => exact ⟨0, by omega, rfl, ⟨Below.refl _ _⟩⟩
    case round =>
      obtain ⟨j, hj, rfl, HB⟩ := hrel
      have q0 : wr.cell? ⟨w.heap.size, 0, none⟩ = some (.int .i64 8) := by rw [HB.out.cell (p := ⟨w.heap.size, 0, none⟩) (by simp; omega)]; exact Q0.out
      have q1 : wr.cell? ⟨w.heap.size, 1, none⟩ = some (.func (.func 25) #[] #[]) := by rw [HB.out.cell (p := ⟨w.heap.size, 1, none⟩) (by simp; omega)]; exact Q1.out
      have q2 : wr.cell? ⟨w.heap.size, 2, none⟩ = some (.int .i64 6) := by rw [HB.out.cell (p := ⟨w.heap.size, 2, none⟩) (by simp; omega)]; exact Q2.out
      have q3 : wr.cell? ⟨w.heap.size, 3, none⟩ = some (.func (.func 26) #[] #[]) := by rw [HB.out.cell (p := ⟨w.heap.size, 3, none⟩) (by simp; omega)]; exact Q3.out
      have q4 : wr.cell? ⟨w.heap.size, 4, none⟩ = some (.int .i64 3) := by rw [HB.out.cell (p := ⟨w.heap.size, 4, none⟩) (by simp; omega)]; exact Q4.out
      have q5 : wr.cell? ⟨w.heap.size, 5, none⟩ = some (.func (.func 27) #[] #[]) := by rw [HB.out.cell (p := ⟨w.heap.size, 5, none⟩) (by simp; omega)]; exact Q5.out
      have hsr : w.heap.size + 1 ≤ wr.heap.size := by have := HB.out.size; omega
      obtain rfl : j = 0 := by omega
      go_wp2_with fail
      generalize hW1 : World.alloc _ _ = W1
      have hb1 : Below wr.heap.size wr W1 := by rw [← hW1]; exact (Below.refl _ _).alloc (Nat.le_refl _) _
      have hs1 : W1.heap.size = wr.heap.size + 1 := by rw [← hW1]; simp
      have r1 : W1.cell? ⟨wr.heap.size, 0, none⟩ = some (.int .i64 8) := by rw [← hW1]; exact World.cell?_alloc_new ..
      have R1 := Aside0.mk r1
      clear hW1 r1
      refine (rule1_h s W1).mono ?_
      rintro e W2 ⟨rfl, hb2⟩
      have B2 := Aside0.mk ((hb1.trans (hb2.mono (by omega)) : Below wr.heap.size wr W2))
      have r2 : W2.cell? ⟨wr.heap.size, 0, none⟩ = some (.int .i64 8) := by rw [hb2.cell (p := ⟨wr.heap.size, 0, none⟩) (by simp; omega)]; exact R1.out
      clear hb1 hb2
      rw [decide_eq_true HA.out]
      go_wp2
      go_ret
      exact ⟨rfl, B0.out.trans ((HB.out.trans (B2.out.mono (by have := HB.out.size; omega))).mono (by omega))⟩
  · by_cases h2 : 64 < s.size
    · have HA := Aside0.mk h1
      have HC := Aside0.mk h2
      rw [if_neg h1, if_pos h2]
      clear h1 h2
      go_enter Tryd.func10, Tryd.ntmps10
      go_wp2_with go_in
      generalize hW0 : World.alloc _ _ = W0
      have hb0 : Below w.heap.size w W0 := by rw [← hW0]; exact (Below.refl _ _).alloc (Nat.le_refl _) _
      have hs0 : W0.heap.size = w.heap.size + 1 := by rw [← hW0]; simp
      have q3 := three_cells _ _ _ _ _ _ _ _ _ hW0
      have Q0 := Aside0.mk (q3 0 _ rfl)
      have Q1 := Aside0.mk (q3 1 _ rfl)
      have Q2 := Aside0.mk (q3 2 _ rfl)
      have Q3 := Aside0.mk (q3 3 _ rfl)
      have Q4 := Aside0.mk (q3 4 _ rfl)
      have Q5 := Aside0.mk (q3 5 _ rfl)
      have B0 := Aside0.mk hb0
      clear hW0 q3 hb0
      go_loopw [7] (fun kk wr => ∃ j : Nat, j ≤ 1 ∧ kk = .int .i64 j ∧ Aside0 (Below W0.heap.size W0 wr)) (fun kk _ => 4 - (intOf kk).toNat)
      case atStart => exact ⟨0, by omega, rfl, ⟨Below.refl _ _⟩⟩
      case round =>
        obtain ⟨j, hj, rfl, HB⟩ := hrel
        have q0 : wr.cell? ⟨w.heap.size, 0, none⟩ = some (.int .i64 8) := by rw [HB.out.cell (p := ⟨w.heap.size, 0, none⟩) (by simp; omega)]; exact Q0.out
        have q1 : wr.cell? ⟨w.heap.size, 1, none⟩ = some (.func (.func 25) #[] #[]) := by rw [HB.out.cell (p := ⟨w.heap.size, 1, none⟩) (by simp; omega)]; exact Q1.out
        have q2 : wr.cell? ⟨w.heap.size, 2, none⟩ = some (.int .i64 6) := by rw [HB.out.cell (p := ⟨w.heap.size, 2, none⟩) (by simp; omega)]; exact Q2.out
        have q3 : wr.cell? ⟨w.heap.size, 3, none⟩ = some (.func (.func 26) #[] #[]) := by rw [HB.out.cell (p := ⟨w.heap.size, 3, none⟩) (by simp; omega)]; exact Q3.out
        have q4 : wr.cell? ⟨w.heap.size, 4, none⟩ = some (.int .i64 3) := by rw [HB.out.cell (p := ⟨w.heap.size, 4, none⟩) (by simp; omega)]; exact Q4.out
        have q5 : wr.cell? ⟨w.heap.size, 5, none⟩ = some (.func (.func 27) #[] #[]) := by rw [HB.out.cell (p := ⟨w.heap.size, 5, none⟩) (by simp; omega)]; exact Q5.out
        have hsr : w.heap.size + 1 ≤ wr.heap.size := by have := HB.out.size; omega
        rcases (show j = 0 ∨ j = 1 by omega) with rfl | rfl
        · go_wp2_with fail
          generalize hW1 : World.alloc _ _ = W1
          have hb1 : Below wr.heap.size wr W1 := by rw [← hW1]; exact (Below.refl _ _).alloc (Nat.le_refl _) _
          have hs1 : W1.heap.size = wr.heap.size + 1 := by rw [← hW1]; simp
          have r1 : W1.cell? ⟨wr.heap.size, 0, none⟩ = some (.int .i64 8) := by rw [← hW1]; exact World.cell?_alloc_new ..
          have R1 := Aside0.mk r1
          clear hW1 r1
          refine (rule1_h s W1).mono ?_
          rintro e W2 ⟨rfl, hb2⟩
          have B2 := Aside0.mk ((hb1.trans (hb2.mono (by omega)) : Below wr.heap.size wr W2))
          have r2 : W2.cell? ⟨wr.heap.size, 0, none⟩ = some (.int .i64 8) := by rw [hb2.cell (p := ⟨wr.heap.size, 0, none⟩) (by simp; omega)]; exact R1.out
          clear hb1 hb2
          rw [decide_eq_false HA.out]
          go_wp2_with fail
          go_roundw
          case rel =>
            refine ⟨_, _, _, _, _, _, _, _, _, _, _, _, _, ?_, rfl⟩
            exact ⟨1, by omega, by go_num, ⟨HB.out.trans (B2.out.mono (by have := HB.out.size; omega))⟩⟩
          case measure => simp [intOf]
        · go_wp2_with fail
          generalize hW1 : World.alloc _ _ = W1
          have hb1 : Below wr.heap.size wr W1 := by rw [← hW1]; exact (Below.refl _ _).alloc (Nat.le_refl _) _
          have hs1 : W1.heap.size = wr.heap.size + 1 := by rw [← hW1]; simp
          have r1 : W1.cell? ⟨wr.heap.size, 0, none⟩ = some (.int .i64 6) := by rw [← hW1]; exact World.cell?_alloc_new ..
          have R1 := Aside0.mk r1
          clear hW1 r1
          refine (rule2_h s W1).mono ?_
          rintro e W2 ⟨rfl, hb2⟩
          have B2 := Aside0.mk ((hb1.trans (hb2.mono (by omega)) : Below wr.heap.size wr W2))
          have r2 : W2.cell? ⟨wr.heap.size, 0, none⟩ = some (.int .i64 6) := by rw [hb2.cell (p := ⟨wr.heap.size, 0, none⟩) (by simp; omega)]; exact R1.out
          clear hb1 hb2
          rw [decide_eq_true HC.out]
          go_wp2
          go_ret
          exact ⟨rfl, B0.out.trans ((HB.out.trans (B2.out.mono (by have := HB.out.size; omega))).mono (by omega))⟩
    · by_cases h3 : Lib.validD s.data.toList = true
      · have HA := Aside0.mk h1
        have HC := Aside0.mk h2
        have HD := Aside0.mk h3
        rw [if_neg h1, if_neg h2, if_pos h3]
        clear h1 h2 h3
        go_enter Tryd.func10, Tryd.ntmps10
        go_wp2_with go_in
        generalize hW0 : World.alloc _ _ = W0
        have hb0 : Below w.heap.size w W0 := by rw [← hW0]; exact (Below.refl _ _).alloc (Nat.le_refl _) _
        have hs0 : W0.heap.size = w.heap.size + 1 := by rw [← hW0]; simp
        have q3 := three_cells _ _ _ _ _ _ _ _ _ hW0
        have Q0 := Aside0.mk (q3 0 _ rfl)
        have Q1 := Aside0.mk (q3 1 _ rfl)
        have Q2 := Aside0.mk (q3 2 _ rfl)
        have Q3 := Aside0.mk (q3 3 _ rfl)
        have Q4 := Aside0.mk (q3 4 _ rfl)
        have Q5 := Aside0.mk (q3 5 _ rfl)
        have B0 := Aside0.mk hb0
        clear hW0 q3 hb0
        go_loopw [7] (fun kk wr => ∃ j : Nat, j ≤ 3 ∧ kk = .int .i64 j ∧ Aside0 (Below W0.heap.size W0 wr)) (fun kk _ => 4 - (intOf kk).toNat)
        case atStart => exact ⟨0, by omega, rfl, ⟨Below.refl _ _⟩⟩
        case round =>
          obtain ⟨j, hj, rfl, HB⟩ := hrel
          have q0 : wr.cell? ⟨w.heap.size, 0, none⟩ = some (.int .i64 8) := by rw [HB.out.cell (p := ⟨w.heap.size, 0, none⟩) (by simp; omega)]; exact Q0.out
          have q1 : wr.cell? ⟨w.heap.size, 1, none⟩ = some (.func (.func 25) #[] #[]) := by rw [HB.out.cell (p := ⟨w.heap.size, 1, none⟩) (by simp; omega)]; exact Q1.out
          have q2 : wr.cell? ⟨w.heap.size, 2, none⟩ = some (.int .i64 6) := by rw [HB.out.cell (p := ⟨w.heap.size, 2, none⟩) (by simp; omega)]; exact Q2.out
          have q3 : wr.cell? ⟨w.heap.size, 3, none⟩ = some (.func (.func 26) #[] #[]) := by rw [HB.out.cell (p := ⟨w.heap.size, 3, none⟩) (by simp; omega)]; exact Q3.out
          have q4 : wr.cell? ⟨w.heap.size, 4, none⟩ = some (.int .i64 3) := by rw [HB.out.cell (p := ⟨w.heap.size, 4, none⟩) (by simp; omega)]; exact Q4.out
          have q5 : wr.cell? ⟨w.heap.size, 5, none⟩ = some (.func (.func 27) #[] #[]) := by rw [HB.out.cell (p := ⟨w.heap.size, 5, none⟩) (by simp; omega)]; exact Q5.out
          have hsr : w.heap.size + 1 ≤ wr.heap.size := by have := HB.out.size; omega
          rcases (show j = 0 ∨ j = 1 ∨ j = 2 ∨ j = 3 by omega) with rfl | rfl | rfl | rfl
          · go_wp2_with fail
            generalize hW1 : World.alloc _ _ = W1
            have hb1 : Below wr.heap.size wr W1 := by rw [← hW1]; exact (Below.refl _ _).alloc (Nat.le_refl _) _
            have hs1 : W1.heap.size = wr.heap.size + 1 := by rw [← hW1]; simp
            have r1 : W1.cell? ⟨wr.heap.size, 0, none⟩ = some (.int .i64 8) := by rw [← hW1]; exact World.cell?_alloc_new ..
            have R1 := Aside0.mk r1
            clear hW1 r1
            refine (rule1_h s W1).mono ?_
            rintro e W2 ⟨rfl, hb2⟩
            have B2 := Aside0.mk ((hb1.trans (hb2.mono (by omega)) : Below wr.heap.size wr W2))
            have r2 : W2.cell? ⟨wr.heap.size, 0, none⟩ = some (.int .i64 8) := by rw [hb2.cell (p := ⟨wr.heap.size, 0, none⟩) (by simp; omega)]; exact R1.out
            clear hb1 hb2
            rw [decide_eq_false HA.out]
            go_wp2_with fail
            go_roundw
            case rel =>
              refine ⟨_, _, _, _, _, _, _, _, _, _, _, _, _, ?_, rfl⟩
              exact ⟨1, by omega, by go_num, ⟨HB.out.trans (B2.out.mono (by have := HB.out.size; omega))⟩⟩
            case measure => simp [intOf]
          · go_wp2_with fail
            generalize hW1 : World.alloc _ _ = W1
            have hb1 : Below wr.heap.size wr W1 := by rw [← hW1]; exact (Below.refl _ _).alloc (Nat.le_refl _) _
            have hs1 : W1.heap.size = wr.heap.size + 1 := by rw [← hW1]; simp
            have r1 : W1.cell? ⟨wr.heap.size, 0, none⟩ = some (.int .i64 6) := by rw [← hW1]; exact World.cell?_alloc_new ..
            have R1 := Aside0.mk r1
            clear hW1 r1
            refine (rule2_h s W1).mono ?_
            rintro e W2 ⟨rfl, hb2⟩
            have B2 := Aside0.mk ((hb1.trans (hb2.mono (by omega)) : Below wr.heap.size wr W2))
            have r2 : W2.cell? ⟨wr.heap.size, 0, none⟩ = some (.int .i64 6) := by rw [hb2.cell (p := ⟨wr.heap.size, 0, none⟩) (by simp; omega)]; exact R1.out
            clear hb1 hb2
            rw [decide_eq_false HC.out]
            go_wp2_with fail
            go_roundw
            case rel =>
              refine ⟨_, _, _, _, _, _, _, _, _, _, _, _, _, ?_, rfl⟩
              exact ⟨2, by omega, by go_num, ⟨HB.out.trans (B2.out.mono (by have := HB.out.size; omega))⟩⟩
            case measure => simp [intOf]
          · go_wp2_with fail
            generalize hW1 : World.alloc _ _ = W1
            have hb1 : Below wr.heap.size wr W1 := by rw [← hW1]; exact (Below.refl _ _).alloc (Nat.le_refl _) _
            have hs1 : W1.heap.size = wr.heap.size + 1 := by rw [← hW1]; simp
            have r1 : W1.cell? ⟨wr.heap.size, 0, none⟩ = some (.int .i64 3) := by rw [← hW1]; exact World.cell?_alloc_new ..
            have R1 := Aside0.mk r1
            clear hW1 r1
            refine (rule3_h s W1 hs ((HT.out.below B0.out).below (HB.out.trans (hb1.mono (by have := HB.out.size; omega))))).mono ?_
            rintro e W2 ⟨rfl, hb2⟩
            have B2 := Aside0.mk ((hb1.trans (hb2.mono (by omega)) : Below wr.heap.size wr W2))
            have r2 : W2.cell? ⟨wr.heap.size, 0, none⟩ = some (.int .i64 3) := by rw [hb2.cell (p := ⟨wr.heap.size, 0, none⟩) (by simp; omega)]; exact R1.out
            clear hb1 hb2
            rw [HD.out, Bool.not_true]
            go_wp2_with fail
            go_roundw
            case rel =>
              refine ⟨_, _, _, _, _, _, _, _, _, _, _, _, _, ?_, rfl⟩
              exact ⟨3, by omega, by go_num, ⟨HB.out.trans (B2.out.mono (by have := HB.out.size; omega))⟩⟩
            case measure => simp [intOf]
          · go_wp2
            go_ret
            exact ⟨rfl, B0.out.trans (HB.out.mono (by omega))⟩
      · rw [Bool.not_eq_true] at h3
        have HA := Aside0.mk h1
        have HC := Aside0.mk h2
        have HD := Aside0.mk h3
        rw [if_neg h1, if_neg h2, if_neg (by rw [h3]; exact Bool.false_ne_true)]
        clear h1 h2 h3
        go_enter Tryd.func10, Tryd.ntmps10
        go_wp2_with go_in
        generalize hW0 : World.alloc _ _ = W0
        have hb0 : Below w.heap.size w W0 := by rw [← hW0]; exact (Below.refl _ _).alloc (Nat.le_refl _) _
        have hs0 : W0.heap.size = w.heap.size + 1 := by rw [← hW0]; simp
        have q3 := three_cells _ _ _ _ _ _ _ _ _ hW0
        have Q0 := Aside0.mk (q3 0 _ rfl)
        have Q1 := Aside0.mk (q3 1 _ rfl)
        have Q2 := Aside0.mk (q3 2 _ rfl)
        have Q3 := Aside0.mk (q3 3 _ rfl)
        have Q4 := Aside0.mk (q3 4 _ rfl)
        have Q5 := Aside0.mk (q3 5 _ rfl)
        have B0 := Aside0.mk hb0
        clear hW0 q3 hb0
        go_loopw [7] (fun kk wr => ∃ j : Nat, j ≤ 2 ∧ kk = .int .i64 j ∧ Aside0 (Below W0.heap.size W0 wr)) (fun kk _ => 4 - (intOf kk).toNat)
        case atStart => exact ⟨0, by omega, rfl, ⟨Below.refl _ _⟩⟩
        case round =>
          obtain ⟨j, hj, rfl, HB⟩ := hrel
          have q0 : wr.cell? ⟨w.heap.size, 0, none⟩ = some (.int .i64 8) := by rw [HB.out.cell (p := ⟨w.heap.size, 0, none⟩) (by simp; omega)]; exact Q0.out
          have q1 : wr.cell? ⟨w.heap.size, 1, none⟩ = some (.func (.func 25) #[] #[]) := by rw [HB.out.cell (p := ⟨w.heap.size, 1, none⟩) (by simp; omega)]; exact Q1.out
          have q2 : wr.cell? ⟨w.heap.size, 2, none⟩ = some (.int .i64 6) := by rw [HB.out.cell (p := ⟨w.heap.size, 2, none⟩) (by simp; omega)]; exact Q2.out
          have q3 : wr.cell? ⟨w.heap.size, 3, none⟩ = some (.func (.func 26) #[] #[]) := by rw [HB.out.cell (p := ⟨w.heap.size, 3, none⟩) (by simp; omega)]; exact Q3.out
          have q4 : wr.cell? ⟨w.heap.size, 4, none⟩ = some (.int .i64 3) := by rw [HB.out.cell (p := ⟨w.heap.size, 4, none⟩) (by simp; omega)]; exact Q4.out
          have q5 : wr.cell? ⟨w.heap.size, 5, none⟩ = some (.func (.func 27) #[] #[]) := by rw [HB.out.cell (p := ⟨w.heap.size, 5, none⟩) (by simp; omega)]; exact Q5.out
          have hsr : w.heap.size + 1 ≤ wr.heap.size := by have := HB.out.size; omega
          rcases (show j = 0 ∨ j = 1 ∨ j = 2 by omega) with rfl | rfl | rfl
          · go_wp2_with fail
            generalize hW1 : World.alloc _ _ = W1
            have hb1 : Below wr.heap.size wr W1 := by rw [← hW1]; exact (Below.refl _ _).alloc (Nat.le_refl _) _
            have hs1 : W1.heap.size = wr.heap.size + 1 := by rw [← hW1]; simp
            have r1 : W1.cell? ⟨wr.heap.size, 0, none⟩ = some (.int .i64 8) := by rw [← hW1]; exact World.cell?_alloc_new ..
            have R1 := Aside0.mk r1
            clear hW1 r1
            refine (rule1_h s W1).mono ?_
            rintro e W2 ⟨rfl, hb2⟩
            have B2 := Aside0.mk ((hb1.trans (hb2.mono (by omega)) : Below wr.heap.size wr W2))
            have r2 : W2.cell? ⟨wr.heap.size, 0, none⟩ = some (.int .i64 8) := by rw [hb2.cell (p := ⟨wr.heap.size, 0, none⟩) (by simp; omega)]; exact R1.out
            clear hb1 hb2
            rw [decide_eq_false HA.out]
            go_wp2_with fail
            go_roundw
            case rel =>
              refine ⟨_, _, _, _, _, _, _, _, _, _, _, _, _, ?_, rfl⟩
              exact ⟨1, by omega, by go_num, ⟨HB.out.trans (B2.out.mono (by have := HB.out.size; omega))⟩⟩
            case measure => simp [intOf]
          · go_wp2_with fail
            generalize hW1 : World.alloc _ _ = W1
            have hb1 : Below wr.heap.size wr W1 := by rw [← hW1]; exact (Below.refl _ _).alloc (Nat.le_refl _) _
            have hs1 : W1.heap.size = wr.heap.size + 1 := by rw [← hW1]; simp
            have r1 : W1.cell? ⟨wr.heap.size, 0, none⟩ = some (.int .i64 6) := by rw [← hW1]; exact World.cell?_alloc_new ..
            have R1 := Aside0.mk r1
            clear hW1 r1
            refine (rule2_h s W1).mono ?_
            rintro e W2 ⟨rfl, hb2⟩
            have B2 := Aside0.mk ((hb1.trans (hb2.mono (by omega)) : Below wr.heap.size wr W2))
            have r2 : W2.cell? ⟨wr.heap.size, 0, none⟩ = some (.int .i64 6) := by rw [hb2.cell (p := ⟨wr.heap.size, 0, none⟩) (by simp; omega)]; exact R1.out
            clear hb1 hb2
            rw [decide_eq_false HC.out]
            go_wp2_with fail
            go_roundw
            case rel =>
              refine ⟨_, _, _, _, _, _, _, _, _, _, _, _, _, ?_, rfl⟩
              exact ⟨2, by omega, by go_num, ⟨HB.out.trans (B2.out.mono (by have := HB.out.size; omega))⟩⟩
            case measure => simp [intOf]
          · go_wp2_with fail
            generalize hW1 : World.alloc _ _ = W1
            have hb1 : Below wr.heap.size wr W1 := by rw [← hW1]; exact (Below.refl _ _).alloc (Nat.le_refl _) _
            have hs1 : W1.heap.size = wr.heap.size + 1 := by rw [← hW1]; simp
            have r1 : W1.cell? ⟨wr.heap.size, 0, none⟩ = some (.int .i64 3) := by rw [← hW1]; exact World.cell?_alloc_new ..
            have R1 := Aside0.mk r1
            clear hW1 r1
            refine (rule3_h s W1 hs ((HT.out.below B0.out).below (HB.out.trans (hb1.mono (by have := HB.out.size; omega))))).mono ?_
            rintro e W2 ⟨rfl, hb2⟩
            have B2 := Aside0.mk ((hb1.trans (hb2.mono (by omega)) : Below wr.heap.size wr W2))
            have r2 : W2.cell? ⟨wr.heap.size, 0, none⟩ = some (.int .i64 3) := by rw [hb2.cell (p := ⟨wr.heap.size, 0, none⟩) (by simp; omega)]; exact R1.out
            clear hb1 hb2
            rw [HD.out, Bool.not_false]
            go_wp2
            go_ret
            exact ⟨rfl, B0.out.trans ((HB.out.trans (B2.out.mono (by have := HB.out.size; omega))).mono (by omega))⟩
end Go.Proofs.YtpbnppfipinomaaDoor.Given
