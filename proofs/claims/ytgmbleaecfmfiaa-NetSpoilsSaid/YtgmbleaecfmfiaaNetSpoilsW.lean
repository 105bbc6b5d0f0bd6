/- THE WALK OF THE LAW NetSpoils: it returns true. Condition: the bytes' size. -/
import Derived.Test.YtgmbleaecfmfiaaNetSame
namespace Go.Proofs.Ytgmbleaecfmfiaa.Given
open Go.RowKit Go.Shelf Go.Proofs.YtgmbleaecfmfiaaW.PrintWords Go.Proofs.YtgmbleaecfmfiaaW.PrintLast Go.Proofs.YtgmbleaecfmfiaaW.PrintMore Go.Proofs.Ytgmbleaecfmfiaa.PS
set_option linter.unusedVariables false
theorem NetAt.lower {t : TypeId} {w : World} {base base1 g : Nat} {v : Value} {L : List Lt} (h : NetAt t w base g v L) (hb : base1 ≤ base) : NetAt t w base1 g v L := ⟨h.1, Nat.le_trans hb h.2.1, h.2.2.lower hb⟩
def Apart (v v2 : Value) : Prop := ∀ k, v.ownBlock = some k → v2.ownBlock ≠ some k
theorem Apart.symm {v v2 : Value} (h : Apart v v2) : Apart v2 v := fun k hk e => h k e hk
/-- the other net, behind an act on one -/
theorem net_other {t t2 : TypeId} {w w' : World} {base base2 g g2 : Nat} {v v1 v2 : Value} {L L2 : List Lt} (hn : NetAt t w base g v L) (h2 : NetAt t2 w base2 g2 v2 L2) (ap : Apart v v2) (hk : KeepBut w w' g v.ownBlock) (hat : v1.ownBlock = v.ownBlock ∨ ∀ k, v1.ownBlock = some k → w.heap.size ≤ k)
    (ht : t ≠ t2) (ht36 : t ≠ 36) (ht5 : t ≠ 5) (ht2 : t2 ≠ 36) : NetAt t2 w' base2 g2 v2 L2 ∧ Apart v1 v2 := by
  have htyp : ∀ k, v.ownBlock = some k → ∃ cells, Bx w k 36 cells := fun k hk => by
    obtain ⟨_, inner, ho, _⟩ := hn.2.2
    exact own_typed ho k hk
  refine ⟨⟨(hk.2 g2 h2.1.lt (h2.1.ne hn.1 ht.symm) (fun e => ?_)).trans h2.1, h2.2.1, h2.2.2.keep hk hn.1 ht5 ht36 htyp (fun k hk e => ap k hk e)⟩, fun k hk' e => ?_⟩
  · obtain ⟨cells, hc⟩ := htyp g2 e.symm
    exact h2.1.ne hc ht2 rfl
  · rcases hat with h | h
    · exact ap k (h ▸ hk') e
    · have h3 := h k hk'
      obtain ⟨_, inner, ho, _⟩ := h2.2.2
      obtain ⟨cells, hc⟩ := own_typed ho k e
      have hcx : Bx w k 36 cells := hc
      have := hcx.lt
      omega
theorem spoilN_lens {L : List Lt} {i at_ : Int} {m : UInt8} (h : ∀ l, l ∈ L → l.fr.length < 140737488355328) : ∀ l, l ∈ (spoilN L i at_ m).1 → l.fr.length < 140737488355328 := by
  unfold spoilN
  split
  · rename_i hi
    obtain ⟨n, rfl, hn1, hg⟩ := inB_nat hi
    rw [hg, show ((n : Nat) : Int).toNat = n from rfl]
    intro l hl
    rcases List.mem_or_eq_of_mem_set hl with h1 | h1
    · exact h l h1
    · rw [h1]
      have h0 := h _ (List.getElem_mem hn1)
      unfold spoilL
      split
      · exact h0
      · split
        · exact h0
        · show (spoilF at_ m L[n].fr).1.length < _
          unfold spoilF
          split
          · simp
          · split
            · simp
            · simpa using h0
  · exact h
theorem spoilN_len {L : List Lt} {i at_ : Int} {m : UInt8} : (spoilN L i at_ m).1.length = L.length := by
  unfold spoilN
  split <;> simp
set_option maxRecDepth 100000 in
set_option maxHeartbeats 8000000 in
theorem NetSpoils_walk {w : World} {v : Value} {bs : List UInt8} (h : Rd w v bs) (hl : bs.length ≤ 140737488351232) (at_ : Int) (ha : -9223372036854775808 ≤ at_ ∧ at_ ≤ 9223372036854775807) (m : UInt8) (again : Int) (hg : -9223372036854775808 ≤ again ∧ again ≤ 9223372036854775807) :
    Calls Try.prog 5 #[v, .int .i64 at_, .int .u8 (m.toNat : Int), .int .i64 again] w fun e w' => e = .returned (.bool true) ∧ Below w.heap.size w w' := by
  have HV := Aside0.mk h
  obtain ⟨Av, cv, rfl, _, _⟩ := h
  have HA := Aside0.mk ha
  have HG := Aside0.mk hg
  clear ha hg
  go_enter Try.func5, Try.ntmps5
  go_wp2_with fail
  generalize hW : World.alloc _ _ = W
  obtain ⟨hx1, hx2, hB, hs⟩ := box2 hW
  clear hW
  have HN0 : Aside0 (NetAt 28 W w.heap.size w.heap.size (.slice none 0 0) []) := ⟨net_new hx1⟩
  have HR0 : Aside0 (NetAt 46 W w.heap.size (w.heap.size + 1) (.slice none 0 0) []) := ⟨(net_new hx2).lower (by omega)⟩
  have HB0 := Aside0.mk hB
  clear hx1 hx2 hB hs
  refine (own28_h (HV.out.below HB0.out) (by omega)).mono ?_
  rintro e w1 ⟨v1, rfl, ho1, hb1⟩
  have HN1 := Aside0.mk (HN0.out.below hb1)
  have HR1 := Aside0.mk (HR0.out.below hb1)
  have HB1 := Aside0.mk (HB0.out.trans (hb1.mono HN0.out.base))
  have HO1 := Aside0.mk ho1.rd
  obtain ⟨A1, c1, rfl⟩ := ho1.slice
  clear ho1 hb1
  go_wp2_with fail
  refine (send_h HN1.out 1 bs HO1.out (by omega) (by simp)).mono ?_
  rintro e w2 ⟨rfl, v2, hn2, hb2, hk2, hat2⟩
  obtain ⟨hr2, hap2⟩ := net_other HN1.out HR1.out (fun k hk => by simp [Value.ownBlock] at hk) hk2 hat2 (by decide) (by decide) (by decide) (by decide)
  have HN2 : Aside0 (NetAt 28 w2 w.heap.size w.heap.size v2 [⟨1, bs, false⟩]) := ⟨hn2⟩
  have HR2 := Aside0.mk hr2
  have HB2 := Aside0.mk (HB1.out.trans hb2)
  have HP2 := Aside0.mk hap2
  clear hn2 hb2 hk2 hat2 hr2 hap2
  go_wp2_with fail
  refine (refSend_h HR2.out 1 bs (HV.out.below HB2.out) (by omega) (by simp)).mono ?_
  rintro e w3 ⟨rfl, v3, hn3, hb3, hk3, hat3⟩
  obtain ⟨hr3, hap3⟩ := net_other HR2.out HN2.out HP2.out.symm hk3 hat3 (by decide) (by decide) (by decide) (by decide)
  have HR3 : Aside0 (NetAt 46 w3 w.heap.size (w.heap.size + 1) v3 [⟨1, bs, false⟩]) := ⟨hn3⟩
  have HN3 := Aside0.mk hr3
  have HB3 := Aside0.mk (HB2.out.trans hb3)
  have HP3 := Aside0.mk hap3.symm
  have HL3 : Aside0 (∀ l, l ∈ [(⟨1, bs, false⟩ : Lt)] → l.fr.length < 140737488355328) := ⟨fun l hl' => by
    rw [List.mem_singleton.1 hl']
    show bs.length < _
    omega⟩
  clear hn3 hb3 hk3 hat3 hr3 hap3
  have HZ3 := Aside0.mk (show ([(⟨1, bs, false⟩ : Lt)].length + 1) * 40 ≤ 140737488355328 by simp)
  generalize [(⟨1, bs, false⟩ : Lt)] = L at *
  go_wp2_with fail
  refine (spoilM_h HN3.out 0 at_ HA.out m HL3.out).mono ?_
  rintro e w4 ⟨rfl, v4, hn4, hb4, hk4, hat4⟩
  obtain ⟨hr4, hap4⟩ := net_other HN3.out HR3.out HP3.out hk4 hat4 (by decide) (by decide) (by decide) (by decide)
  have HN4 := Aside0.mk hn4
  have HR4 := Aside0.mk hr4
  have HB4 := Aside0.mk (HB3.out.trans hb4)
  have HP4 := Aside0.mk hap4
  have HL4 := Aside0.mk (spoilN_lens (i := 0) (at_ := at_) (m := m) HL3.out)
  have HZ4 : Aside0 (((spoilN L 0 at_ m).1.length + 1) * 40 ≤ 140737488355328) := ⟨by rw [spoilN_len]; exact HZ3.out⟩
  clear hn4 hb4 hk4 hat4 hr4 hap4
  have CR := Aside0.mk (fun w' (h : NetAt 46 w' w.heap.size (w.heap.size + 1) v3 L) => refSpoilM_h h 0 at_ m HZ3.out HL3.out)
  generalize spoilN L 0 at_ m = x4 at *
  obtain ⟨L4, e4⟩ := x4
  go_wp2_with fail
  refine (spoilM_h HN4.out 0 again HG.out m HL4.out).mono ?_
  rintro e w5 ⟨rfl, v5, hn5, hb5, hk5, hat5⟩
  obtain ⟨hr5, hap5⟩ := net_other HN4.out HR4.out HP4.out hk5 hat5 (by decide) (by decide) (by decide) (by decide)
  have HN5 := Aside0.mk hn5
  have HR5 := Aside0.mk hr5
  have HB5 := Aside0.mk (HB4.out.trans hb5)
  have HP5 := Aside0.mk hap5
  have HL5 := Aside0.mk (spoilN_lens (i := 0) (at_ := again) (m := m) HL4.out)
  have HZ5 : Aside0 (((spoilN L4 0 again m).1.length + 1) * 40 ≤ 140737488355328) := ⟨by rw [spoilN_len]; exact HZ4.out⟩
  clear hn5 hb5 hk5 hat5 hr5 hap5
  have CR2 := Aside0.mk (fun w' v' (h : NetAt 46 w' w.heap.size (w.heap.size + 1) v' L4) => refSpoilM_h h 0 again m HZ4.out HL4.out)
  generalize spoilN L4 0 again m = x5 at *
  obtain ⟨L5, e5⟩ := x5
  go_wp2_with fail
  refine (CR.out _ HR5.out).mono ?_
  rintro e w6 ⟨rfl, v6, hn6, hb6, hk6, hat6⟩
  obtain ⟨hr6, hap6⟩ := net_other HR5.out HN5.out HP5.out.symm hk6 hat6 (by decide) (by decide) (by decide) (by decide)
  have HR6 : Aside0 (NetAt 46 w6 w.heap.size (w.heap.size + 1) v6 L4) := ⟨hn6⟩
  have HN6 := Aside0.mk hr6
  have HB6 := Aside0.mk (HB5.out.trans hb6)
  have HP6 := Aside0.mk hap6.symm
  clear hn6 hb6 hk6 hat6 hr6 hap6
  go_wp2_with fail
  refine (CR2.out _ _ HR6.out).mono ?_
  rintro e w7 ⟨rfl, v7, hn7, hb7, hk7, hat7⟩
  obtain ⟨hr7, hap7⟩ := net_other HR6.out HN6.out HP6.out.symm hk7 hat7 (by decide) (by decide) (by decide) (by decide)
  have HR7 : Aside0 (NetAt 46 w7 w.heap.size (w.heap.size + 1) v7 L5) := ⟨hn7⟩
  have HN7 : Aside0 (NetAt 28 w7 w.heap.size w.heap.size v5 L5) := ⟨hr7⟩
  have HB7 := Aside0.mk (HB6.out.trans hb7)
  obtain ⟨A7, c7, e7⟩ := hn7.2.2.slice
  subst e7
  have q7 := hn7.1.cell 0
  have hlt7 := hn7.1.lt
  clear hn7 hb7 hk7 hat7 hr7 hap7
  go_wp2_with fail
  go_region_with (first
    | (go_at_call 12; refine (all_h (HN7.out.below (Below.refl _ _).drew) (lensOk_of HL5.out) HZ5.out).mono ?_; rintro e w8 ⟨v8, rfl, hbg8, hb8⟩
       obtain ⟨A8, c8, rfl⟩ := hbg8.slice
       have hb8' : Below w7.heap.size w7 w8 := (Below.refl _ _).drew.trans hb8
       have hr8 := HR7.out.below hb8'
       have q8 := hr8.1.cell 0
       have hlt8 := hr8.1.lt
       have HBG8 := Aside0.mk hbg8
       have HR8 := Aside0.mk hr8.2.2
       have HB8 := Aside0.mk (HB7.out.trans (hb8'.mono HN7.out.base))
       clear hbg8 hb8 hb8' hr8)
    | (go_at_call 20; refine (same_h HBG8.out HR8.out (by have := HZ5.out; omega)).mono ?_; rintro e w9 ⟨rfl, hb9⟩
       have HB9 := Aside0.mk (HB8.out.trans (hb9.mono (by have := HB8.out.size; omega)))
       clear hb9)
    | (go_at_call 9; refine (known28_h _).mono ?_; rintro e w10 ⟨rfl, hb10⟩
       have HB10 := Aside0.mk (HB9.out.trans (hb10.mono (by have := HB9.out.size; omega)))
       clear hb10))
  all_goals go_wp2
  all_goals go_ret
  all_goals exact ⟨rfl, HB10.out⟩
end Go.Proofs.Ytgmbleaecfmfiaa.Given
