/- THE ROWS THAT THE LAWS OF crc CALL known: true; and how a literal's bytes read. No condition. -/
import Derived.Test.YtkocogakihoclaaPSx1
import Derived.Lib.SlBytesConst
namespace Go.Proofs.Ytkocogakihoclaa.Given
open Go.RowKit Go.Proofs.YtkocogakihoclaaW.PrintWords Go.Proofs.YtkocogakihoclaaW.PrintLast Go.Proofs.YtkocogakihoclaaW.PrintMore Go.Proofs.Ytkocogakihoclaa.PS
theorem C_lit (w : World) (xs : List Int) (m : Nat × Nat) (h : xs.length ≤ 9223372036854775807) : Kd.C (Kd.int .u8) (w.alloc (.cells (nums .u8 xs).toArray 5 m)) (some ⟨w.heap.size, 0, none⟩) xs.length xs := by
  refine ⟨rfl, h, fun _ => ⟨_, rfl, fun j p hp => ⟨[.int .u8 p], rfl, rfl, fun i u hu => ?_⟩⟩⟩
  match i, hu with
  | 0, hu =>
    obtain rfl := Option.some.inj hu
    rw [add_plain, World.cell?_alloc_mark]
    simp [nums, Kd.int, Kd.scalar, hp]
theorem known_sum : crc_Sum.f [49, 50, 51, 52, 53, 54, 55, 56, 57] = some 3421780262 := by decide +kernel
theorem known_seal : crc_Seal.f [] = some [0, 0, 0, 0] := by decide +kernel
theorem known_same : commonplaceref15_Same.f 5 [0, 0, 0, 0] [0, 0, 0, 0] = some true := by decide +kernel
def commonplacelaw15_known.f : Option Bool := some true
set_option maxRecDepth 100000 in
set_option maxHeartbeats 400000 in
theorem commonplacelaw15_known.calls (r : Bool) (w : World) (h : commonplacelaw15_known.f = some r) :
    Calls Try.prog 15 #[] w fun e w' => e = .returned (.bool r) ∧ Below w.heap.size w w' := by
  obtain rfl := Option.some.inj h
  clear h
  have C9 := Aside0.mk (C_lit w [49, 50, 51, 52, 53, 54, 55, 56, 57] (9, 10) (by simp))
  have kc := fun (w : World) (C : Array Value) (n c : Nat) => Lib.run_convert_bytes_const (P := Try.prog) w 22 5 C n c Try.underlying22 Try.underlying5
  go_enter Try.func15, Try.ntmps15
  go_wp2_with fail
  refine (crc_Sum.calls _ _ [49, 50, 51, 52, 53, 54, 55, 56, 57] _ _ C9.out (Nat.le_refl _) known_sum).mono ?_
  rintro e w1 ⟨rfl, hb1⟩
  have HB1 := Aside0.mk (((Below.refl w.heap.size w).alloc (Nat.le_refl _) _).trans (hb1.mono (by simp)))
  clear hb1 C9
  go_wp2_with fail
  refine (crc_Seal.calls none 0 [] _ w1 (Kd.C_nil _ _) (Nat.le_refl _) known_seal).mono ?_
  rintro e w2 ⟨v2, rfl, hr2, hb2⟩
  obtain ⟨A2, c2, rfl⟩ := Kd.R_slice hr2
  have HB2 := Aside0.mk (HB1.out.trans (hb2.mono HB1.out.size))
  have HR2 := Aside0.mk hr2
  have C4 := Aside0.mk (C_lit w2 [0, 0, 0, 0] (0, 0) (by simp))
  clear hr2 hb2
  have HB3 := Aside0.mk (HB2.out.alloc HB2.out.size (.cells (nums .u8 [0, 0, 0, 0]).toArray 5))
  have C2 := Aside0.mk (Kd.C_below (Kd.R_reads' HR2.out).2.2 ((Below.refl w2.heap.size w2).alloc (Nat.le_refl _) (.cells (nums .u8 [0, 0, 0, 0]).toArray 5)))
  have L2 := Aside0.mk (Kd.R_reads' HR2.out).2.1
  go_wp2_with fail
  refine (commonplaceref15_Same.calls 5 A2 c2 [0, 0, 0, 0] _ 4 [0, 0, 0, 0] true _ C2.out L2.out C4.out (by simp) known_same).mono ?_
  rintro e w3 ⟨rfl, ⟨nd, rfl⟩⟩
  go_wp2
  go_ret
  exact ⟨rfl, pw_below_drewN HB3.out nd⟩
end Go.Proofs.Ytkocogakihoclaa.Given
