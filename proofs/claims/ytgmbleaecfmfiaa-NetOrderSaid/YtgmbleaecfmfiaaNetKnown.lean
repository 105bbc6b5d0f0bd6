/- THE CONTRACT OF commonplacelaw28.known: true. No condition. -/
import Derived.Test.YtgmbleaecfmfiaaNetRefSpoil
namespace Go.Proofs.Ytgmbleaecfmfiaa.Given
open Go.RowKit Go.Shelf Go.Proofs.YtgmbleaecfmfiaaW.PrintWords Go.Proofs.YtgmbleaecfmfiaaW.PrintLast Go.Proofs.YtgmbleaecfmfiaaW.PrintMore Go.Proofs.Ytgmbleaecfmfiaa.PS
set_option linter.unusedVariables false
theorem rd_new {W : World} {g : Nat} {cs : Array Value} (bs : List UInt8) (hx : Bx W g 5 cs) (hcs : cs.toList = bs.map fun b => Value.int .u8 (b.toNat : Int)) (hl : bs.length ≤ 9223372036854775807) : Rd W (.slice (some ⟨g, 0, none⟩) bs.length bs.length) bs := by
  refine ⟨_, _, rfl, Nat.le_refl _, ?_⟩
  refine Kd.C_of_reads (d := (0 : Int)) ⟨by rw [nB_length], hl, fun hp => ⟨_, rfl, fun j hj => ?_⟩⟩
  rw [Addr.add_lit, hx.cell]
  have e : cs[0 + j]? = cs.toList[0 + j]? := by simp
  rw [e, hcs, Nat.zero_add, List.getElem?_map, List.getElem?_eq_getElem hj]
  simp [List.getD, nB_get bs j hj]
theorem net_new {W : World} {g : Nat} {t : TypeId} (hx : Bx W g t #[.slice none 0 0]) : NetAt t W g g (.slice none 0 0) [] := ⟨hx, Nat.le_refl _, Bag.nil _ _⟩
def kL1 : List Lt := [⟨0, [1, 2, 3], false⟩]
def kL2 : List Lt := [⟨0, [1, 2, 3], false⟩, ⟨0, [1, 2, 3], false⟩]
def kL3 : List Lt := [⟨0, [1, 2, 252], true⟩, ⟨0, [1, 2, 3], false⟩]
def kL4 : List Lt := [⟨0, [1, 2, 252], true⟩]
theorem kd : doubleL kL1 0 = (kL2, 0) := by kernel_rfl
theorem ks : spoilN kL2 0 2 255 = (kL3, 0) := by kernel_rfl
theorem kt : takeL kL3 1 = (kL4, ⟨0, [1, 2, 3], false⟩, 0) := by kernel_rfl
theorem ka : atL kL4 0 = (⟨0, [1, 2, 252], true⟩, 0) := by kernel_rfl
theorem ks2 : spoilN kL4 0 0 1 = (kL4, 13) := by kernel_rfl
theorem lens_of {L : List Lt} (h : L.all (fun l => decide (l.fr.length < 1000)) = true) : ∀ l, l ∈ L → l.fr.length < 140737488355328 := fun l hl => by
  have := List.all_eq_true.1 h l hl
  have := of_decide_eq_true this
  omega
theorem lensOk_of {L : List Lt} (h : ∀ l, l ∈ L → l.fr.length < 140737488355328) : lensOk L := fun l hl => Nat.le_of_lt (h l hl)
set_option maxRecDepth 100000 in
set_option maxHeartbeats 4000000 in
theorem known28_h (w : World) : Calls Try.prog 9 #[] w fun e w' => e = .returned (.bool true) ∧ Below w.heap.size w w' := by
  have l1 := lens_of (L := kL1) (by decide)
  have l2 := lens_of (L := kL2) (by decide)
  have l4 := lens_of (L := kL4) (by decide)
  go_enter Try.func9, Try.ntmps9
  go_wp2_with fail
  generalize hW : World.alloc _ _ = W
  obtain ⟨hx, hxb, hB, hs⟩ := box2 hW
  clear hW
  have HN0 := Aside0.mk (net_new hx)
  have HF := Aside0.mk (rd_new [1, 2, 3] hxb rfl (by decide))
  have HB0 := Aside0.mk hB
  have L1 := Aside0.mk l1
  have L2 := Aside0.mk l2
  have L4 := Aside0.mk l4
  clear hx hxb hB hs l1 l2 l4
  refine (send_h HN0.out 0 [1, 2, 3] HF.out (by decide) (by decide)).mono ?_
  rintro e w1 ⟨rfl, v1, hn1, hb1, -, -⟩
  have HN1 : Aside0 (NetAt 28 w1 w.heap.size w.heap.size v1 kL1) := ⟨hn1⟩
  have HB1 := Aside0.mk (HB0.out.trans hb1)
  clear hn1 hb1
  go_wp2_with fail
  refine (double_h HN1.out 0 (lensOk_of L1.out) (by decide)).mono ?_
  rw [kd]
  rintro e w2 ⟨rfl, v2, hn2, hb2, -, -⟩
  have HN2 := Aside0.mk hn2
  have HB2 := Aside0.mk (HB1.out.trans hb2)
  clear hn2 hb2
  go_wp2_with fail
  refine (spoilM_h HN2.out 0 2 (by omega) 255 L2.out).mono ?_
  rw [ks]
  rintro e w3 ⟨rfl, v3, hn3, hb3, -, -⟩
  have HN3 := Aside0.mk hn3
  have HB3 := Aside0.mk (HB2.out.trans hb3)
  clear hn3 hb3
  go_wp2_with fail
  refine (drop_h HN3.out 1).mono ?_
  rw [kt]
  rintro e w4 ⟨rfl, v4, hn4, hb4, -, -⟩
  have HN4 := Aside0.mk hn4
  have HB4 := Aside0.mk (HB3.out.trans hb4)
  clear hn4 hb4
  go_wp2_with fail
  refine (at_h HN4.out 0 (lensOk_of L4.out)).mono ?_
  rw [ka]
  rintro e w5 ⟨v5, rfl, ho5, hb5⟩
  obtain ⟨A5, c5, rfl⟩ := ho5.slice
  have HN5 := Aside0.mk (HN4.out.below hb5)
  have HO5 := Aside0.mk ho5
  have HB5 := Aside0.mk (HB4.out.trans (hb5.mono HN4.out.base))
  clear ho5 hb5
  go_wp2_with fail
  generalize hW : World.alloc _ _ = W6
  obtain ⟨_, hxb, hB, hs⟩ := box2 hW
  clear hW
  have HF6 := Aside0.mk (rd_new [1, 2, 252] hxb rfl (by decide))
  have HN6 := Aside0.mk (HN5.out.below hB)
  have HB6 := Aside0.mk (HB5.out.trans (hB.mono HN5.out.base))
  have HO6 := Aside0.mk (HO5.out.rd.below hB)
  clear hxb hB hs
  refine (sameLet_h ⟨0, [1, 2, 252], true⟩ HO6.out HF6.out).mono ?_
  rintro e w7 ⟨rfl, hb7⟩
  have hn7 := HN6.out.below hb7
  have HB7 := Aside0.mk (HB6.out.trans (hb7.mono HN6.out.base))
  obtain ⟨A7, c7, rfl⟩ := hn7.2.2.slice
  have HN7 := Aside0.mk hn7
  clear hb7 hn7
  go_wp2_with fail
  refine (len_h HN7.out.1).mono ?_
  rintro e w8 ⟨rfl, rfl⟩
  go_wp2_with fail
  refine (spoilM_h HN7.out 0 0 (by omega) 1 L4.out).mono ?_
  rw [ks2]
  rintro e w9 ⟨rfl, v9, hn9, hb9, -, -⟩
  have HB9 := Aside0.mk (HB7.out.trans hb9)
  clear hn9 hb9
  go_wp2
  go_ret
  exact ⟨rfl, HB9.out⟩
end Go.Proofs.Ytgmbleaecfmfiaa.Given
