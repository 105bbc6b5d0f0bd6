/- THE WALK OF THE LAW NetTells: it returns true. Condition: the bytes' size. -/
import Derived.Test.YtgmbleaecfmfiaaNFrLaw
import Derived.Test.YtgmbleaecfmfiaaNetSame
namespace Go.Proofs.Ytgmbleaecfmfiaa.Given
open Go.RowKit Go.Shelf Go.Proofs.YtgmbleaecfmfiaaW.PrintWords Go.Proofs.YtgmbleaecfmfiaaW.PrintLast Go.Proofs.YtgmbleaecfmfiaaW.PrintMore Go.Proofs.Ytgmbleaecfmfiaa.PS
set_option linter.unusedVariables false
theorem netLower {t : TypeId} {w : World} {base base1 g : Nat} {v : Value} {L : List Lt} (h : NetAt t w base g v L) (hb : base1 ≤ base) : NetAt t w base1 g v L := ⟨h.1, Nat.le_trans hb h.2.1, h.2.2.lower hb⟩
theorem u8_zero {k : UInt8} (h : k = 0) : ((k.toNat : Int) == 0) = true := by rw [h]; rfl
theorem u8_nonzero {k : UInt8} (h : k ≠ 0) : ((k.toNat : Int) == 0) = false := beq_eq_false_iff_ne.mpr (fun e => h (UInt8.toNat_inj.mp (by simpa using e)))
theorem tells_at (at_ : Int) (n : Nat) (hn : n ≤ 140737488351232) : ∃ p : Nat, wrap64 ((IntKind.u64.wrap at_).tmod ((n : Int) + 5)) = (p : Int) ∧ p < n + 5 := by
  have h0 : 0 ≤ IntKind.u64.wrap at_ := by
    unfold IntKind.wrap
    simp [IntKind.signed, IntKind.bits]
    omega
  generalize IntKind.u64.wrap at_ = u at *
  have h1 : u.tmod ((n : Int) + 5) = u % ((n : Int) + 5) := Int.tmod_eq_emod_of_nonneg h0
  have h2 : 0 ≤ u % ((n : Int) + 5) := Int.emod_nonneg _ (by omega)
  have h3 : u % ((n : Int) + 5) < (n : Int) + 5 := Int.emod_lt_of_pos _ (by omega)
  rw [h1]
  generalize u % ((n : Int) + 5) = r at *
  refine ⟨r.toNat, ?_, by omega⟩
  unfold wrap64
  omega
set_option maxRecDepth 100000 in
set_option maxHeartbeats 8000000 in
theorem NetTells_walk {w : World} (kd : UInt8) {v : Value} {bs : List UInt8} (h : Rd w v bs) (hl : bs.length ≤ 140737488351232) (at_ : Int) (ha : -9223372036854775808 ≤ at_ ∧ at_ ≤ 9223372036854775807) (m : UInt8) :
    Calls Try.prog 8 #[.int .u8 (kd.toNat : Int), v, .int .i64 at_, .int .u8 (m.toNat : Int)] w fun e w' => e = .returned (.bool true) ∧ Below w.heap.size w w' := by
  by_cases hk : kd = 0
  · have hd := u8_zero hk
    obtain ⟨Av, cv, rfl, _, _⟩ := h
    clear hk
    go_enter Try.func8, Try.ntmps8
    go_wp2_with fail
    refine (known28_h _).mono ?_
    rintro e w1 ⟨rfl, hb⟩
    have HB := Aside0.mk hb
    clear hb
    go_wp2
    go_ret
    exact ⟨rfl, HB.out⟩
  · by_cases hm : m = 0
    · have hd := u8_nonzero hk
      have hd2 := u8_zero hm
      obtain ⟨Av, cv, rfl, _, _⟩ := h
      clear hk hm
      go_enter Try.func8, Try.ntmps8
      go_wp2_with fail
      refine (known28_h _).mono ?_
      rintro e w1 ⟨rfl, hb⟩
      have HB := Aside0.mk hb
      clear hb
      go_wp2
      go_ret
      exact ⟨rfl, HB.out⟩
    · have hd := u8_nonzero hk
      have hd2 := u8_nonzero hm
      have HV := Aside0.mk h
      obtain ⟨Av, cv, rfl, _, _⟩ := h
      have HA := Aside0.mk ha
      have HM := Aside0.mk hm
      have hfe := frameE_ne hk
      have hfl := frameL_ne hk bs
      have hsl : (sealB (kd :: bs)).length = bs.length + 5 := by
        have := sealB_length (kd :: bs)
        simpa using this
      have HFE := Aside0.mk hfe
      have HFL := Aside0.mk hfl
      have HSL := Aside0.mk hsl
      have HOP := Aside0.mk (openF_seal hk bs)
      have HSP := Aside0.mk (fun p hp => spoilt_openF (kd :: bs) p m hp hm)
      clear hk hm ha hfe hfl hsl
      go_enter Try.func8, Try.ntmps8
      go_wp2_with fail
      refine (own28_h HV.out (by omega)).mono ?_
      rintro e w1 ⟨v1, rfl, ho1, hb1⟩
      obtain ⟨A1, c1, rfl⟩ := ho1.slice
      have HO1 := Aside0.mk ho1.rd
      have HB1 := Aside0.mk hb1
      clear ho1 hb1
      go_wp2_with fail
      refine (frame_h kd HO1.out (by omega)).mono ?_
      rw [HFE.out, HFL.out]
      rintro e w2 ⟨v2, rfl, ho2, hb2⟩
      obtain ⟨A2, c2, e2⟩ := ho2.slice
      rw [HSL.out] at e2
      subst e2
      have HO2 := Aside0.mk ho2.rd
      have HB2 := Aside0.mk (chain HB1.out hb2)
      clear ho2 hb2
      have hlp : (0 : Int) < (bs.length : Int) + 5 := by omega
      go_wp2_with fail
      generalize hW : World.alloc _ _ = W
      obtain ⟨hx, hB, hs⟩ := box1 hW
      clear hW
      have HN0 := Aside0.mk (netLower (base1 := w.heap.size) (net_new hx) HB2.out.size)
      have HB3 := Aside0.mk (chain HB2.out hB)
      have HO3 := Aside0.mk (HO2.out.below hB)
      clear hx hB hs
      generalize hf : sealB (kd :: bs) = f at *
      refine (send_h HN0.out 3 f (by have := HO3.out; exact this) (by rw [HSL.out]; omega) (by decide)).mono ?_
      rintro e w4 ⟨rfl, v4, hn4, hb4, -, -⟩
      have HN4 : Aside0 (NetAt 28 w4 w.heap.size w2.heap.size v4 [⟨3, f, false⟩]) := ⟨hn4⟩
      have HB4 := Aside0.mk (HB3.out.trans hb4)
      clear hn4 hb4
      have HLF := Aside0.mk (show f.length < 140737488355328 by rw [HSL.out]; omega)
      have hll1 : ∀ l, l ∈ [(⟨3, f, false⟩ : Lt)] → l.fr.length < 140737488355328 := fun l hl' => by rw [List.mem_singleton.1 hl']; exact HLF.out
      have HLL1 := Aside0.mk hll1
      clear hll1
      go_wp2_with fail
      refine (double_h HN4.out 0 (lensOk_of HLL1.out) (by show (1 + 1) * 40 ≤ 140737488355328; decide)).mono ?_
      rw [show doubleL [⟨3, f, false⟩] 0 = ([⟨3, f, false⟩, ⟨3, f, false⟩], 0) from rfl]
      rintro e w5 ⟨rfl, v5, hn5, hb5, -, -⟩
      have HN5 := Aside0.mk hn5
      have HB5 := Aside0.mk (HB4.out.trans hb5)
      clear hn5 hb5
      go_wp2_with fail
      obtain ⟨p, hp, hpl⟩ := tells_at at_ bs.length hl
      rw [hp]
      clear hp
      have HPL := Aside0.mk (show p < f.length by rw [HSL.out]; exact hpl)
      have hfs : (f.set p (f[p]'HPL.out ^^^ m)).length = f.length := by simp
      have HOS := Aside0.mk (HSP.out p HPL.out)
      have HSF := Aside0.mk (spoilF_in (bs := f) HPL.out HM.out)
      obtain ⟨fs, hfs2⟩ : ∃ fs, f.set p (f[p]'HPL.out ^^^ m) = fs := ⟨_, rfl⟩
      rw [hfs2] at hfs HOS HSF
      have HFS := Aside0.mk hfs
      clear hfs hfs2
      have hpb : -9223372036854775808 ≤ (p : Int) ∧ (p : Int) ≤ 9223372036854775807 := by omega
      have HPB := Aside0.mk hpb
      clear hpb
      have HS1 : Aside0 (spoilN [⟨3, f, false⟩, ⟨3, f, false⟩] 0 p m = ([⟨3, fs, true⟩, ⟨3, f, false⟩], 0)) := ⟨by
        unfold spoilN
        rw [if_pos (by constructor <;> simp)]
        have e : spoilL ([(⟨3, f, false⟩ : Lt), ⟨3, f, false⟩].getD (0 : Int).toNat ⟨0, [], false⟩) p m = (⟨3, fs, true⟩, 0) := by
          show spoilL ⟨3, f, false⟩ p m = _
          unfold spoilL
          show (if (spoilF (p : Int) m f).2 ≠ 0 then _ else _) = _
          rw [HSF.out]
          rfl
        rw [e]
        rfl⟩
      have HLL2 : Aside0 (∀ l, l ∈ [(⟨3, f, false⟩ : Lt), ⟨3, f, false⟩] → l.fr.length < 140737488355328) := ⟨fun l hl' => by
        rcases List.mem_cons.1 hl' with h1 | h1
        · rw [h1]; exact HLF.out
        · exact HLL1.out l h1⟩
      refine (spoilM_h HN5.out 0 p HPB.out m HLL2.out).mono ?_
      rw [HS1.out]
      rintro e w6 ⟨rfl, v6, hn6, hb6, -, -⟩
      have HN6 := Aside0.mk hn6
      have HB6 := Aside0.mk (HB5.out.trans hb6)
      clear hn6 hb6
      have HLL3 : Aside0 (∀ l, l ∈ [(⟨3, fs, true⟩ : Lt), ⟨3, f, false⟩] → l.fr.length < 140737488355328) := ⟨fun l hl' => by
        rcases List.mem_cons.1 hl' with h1 | h1
        · rw [h1]; show fs.length < _; rw [HFS.out]; exact HLF.out
        · exact HLL1.out l h1⟩
      go_wp2_with fail
      refine (double_h HN6.out 0 (lensOk_of HLL3.out) (by show (2 + 1) * 40 ≤ 140737488355328; decide)).mono ?_
      rw [show doubleL [⟨3, fs, true⟩, ⟨3, f, false⟩] 0 = ([⟨3, fs, true⟩, ⟨3, f, false⟩, ⟨3, fs, true⟩], 0) from rfl]
      rintro e w7 ⟨rfl, v7, hn7, hb7, -, -⟩
      have HN7 := Aside0.mk hn7
      have HB7 := Aside0.mk (HB6.out.trans hb7)
      clear hn7 hb7
      have HLL4 : Aside0 (∀ l, l ∈ [(⟨3, fs, true⟩ : Lt), ⟨3, f, false⟩, ⟨3, fs, true⟩] → l.fr.length < 140737488355328) := ⟨fun l hl' => by
        rcases List.mem_cons.1 hl' with h1 | h1
        · exact HLL3.out l (by rw [h1]; simp)
        · rcases List.mem_cons.1 h1 with h2 | h2
          · exact HLL3.out l (by rw [h2]; simp)
          · exact HLL3.out l (by rw [List.mem_singleton.1 h2]; simp)⟩
      have HS2 : Aside0 (spoilN [⟨3, fs, true⟩, ⟨3, f, false⟩, ⟨3, fs, true⟩] 2 p m = ([⟨3, fs, true⟩, ⟨3, f, false⟩, ⟨3, fs, true⟩], 13)) := ⟨by
        unfold spoilN
        rw [if_pos (by constructor <;> simp)]
        have e : spoilL ([(⟨3, fs, true⟩ : Lt), ⟨3, f, false⟩, ⟨3, fs, true⟩].getD (2 : Int).toNat ⟨0, [], false⟩) p m = (⟨3, fs, true⟩, 13) := by
          show spoilL ⟨3, fs, true⟩ p m = _
          unfold spoilL
          show (if (spoilF (p : Int) m fs).2 ≠ 0 then _ else _) = _
          rw [spoilF_in (by rw [HFS.out]; exact HPL.out) HM.out]
          rfl
        rw [e]
        rfl⟩
      go_wp2_with fail
      refine (spoilM_h HN7.out 2 p HPB.out m HLL4.out).mono ?_
      rw [HS2.out]
      rintro e w8 ⟨rfl, v8, hn8, hb8, -, -⟩
      have HN8 := Aside0.mk hn8
      have HB8 := Aside0.mk (HB7.out.trans hb8)
      clear hn8 hb8
      go_wp2_with fail
      refine (at_h HN8.out 0 (lensOk_of HLL4.out)).mono ?_
      rw [show atL [⟨3, fs, true⟩, ⟨3, f, false⟩, ⟨3, fs, true⟩] 0 = (⟨3, fs, true⟩, 0) from rfl]
      rintro e w9 ⟨va0, rfl, ho, hb⟩
      obtain ⟨Aa0, ca0, e2⟩ := ho.slice
      subst e2
      have HO := Aside0.mk ho.rd
      have HNx := Aside0.mk (HN8.out.below hb)
      have HBx := Aside0.mk (HB8.out.trans (hb.mono HN8.out.base))
      clear ho hb
      go_wp2_with fail
      generalize hW : World.alloc _ _ = w10
      obtain ⟨hx, hb, hs⟩ := box1 hW
      clear hW hs
      have hltx0 := hx.lt
      have hxx0 := Aside0.mk hx
      have HR0 := Aside0.mk (HO.out.below hb)
      have HX0 := hxx0
      clear hxx0 HO
      have HN10 := Aside0.mk (HNx.out.below hb)
      have HB10 := Aside0.mk (HBx.out.trans (hb.mono HNx.out.base))
      clear hx hb HNx HBx
      refine (at_h HN10.out 1 (lensOk_of HLL4.out)).mono ?_
      rw [show atL [⟨3, fs, true⟩, ⟨3, f, false⟩, ⟨3, fs, true⟩] 1 = (⟨3, f, false⟩, 0) from rfl]
      rintro e w11 ⟨va1, rfl, ho, hb⟩
      obtain ⟨Aa1, ca1, e2⟩ := ho.slice
      subst e2
      have HO := Aside0.mk ho.rd
      have HNx := Aside0.mk (HN10.out.below hb)
      have HBx := Aside0.mk (HB10.out.trans (hb.mono HN10.out.base))
      have HXx0 := Aside0.mk (HX0.out.below hb HX0.out.lt)
      have HRx0 := Aside0.mk (HR0.out.below hb)
      clear HX0 HR0
      have HX0 := HXx0
      have HR0 := HRx0
      clear HXx0 HRx0
      clear ho hb
      go_wp2_with fail
      generalize hW : World.alloc _ _ = w12
      obtain ⟨hx, hb, hs⟩ := box1 hW
      clear hW hs
      have hltx1 := hx.lt
      have hxx1 := Aside0.mk hx
      have HR1 := Aside0.mk (HO.out.below hb)
      have HX1 := hxx1
      clear hxx1 HO
      have HN12 := Aside0.mk (HNx.out.below hb)
      have HB12 := Aside0.mk (HBx.out.trans (hb.mono HNx.out.base))
      have HXx0 := Aside0.mk (HX0.out.below hb HX0.out.lt)
      have HRx0 := Aside0.mk (HR0.out.below hb)
      clear HX0 HR0
      have HX0 := HXx0
      have HR0 := HRx0
      clear HXx0 HRx0
      clear hx hb HNx HBx
      refine (at_h HN12.out 2 (lensOk_of HLL4.out)).mono ?_
      rw [show atL [⟨3, fs, true⟩, ⟨3, f, false⟩, ⟨3, fs, true⟩] 2 = (⟨3, fs, true⟩, 0) from rfl]
      rintro e w13 ⟨va2, rfl, ho, hb⟩
      obtain ⟨Aa2, ca2, e2⟩ := ho.slice
      subst e2
      have HO := Aside0.mk ho.rd
      have HNx := Aside0.mk (HN12.out.below hb)
      have HBx := Aside0.mk (HB12.out.trans (hb.mono HN12.out.base))
      have HXx0 := Aside0.mk (HX0.out.below hb HX0.out.lt)
      have HRx0 := Aside0.mk (HR0.out.below hb)
      clear HX0 HR0
      have HX0 := HXx0
      have HR0 := HRx0
      clear HXx0 HRx0
      have HXx1 := Aside0.mk (HX1.out.below hb HX1.out.lt)
      have HRx1 := Aside0.mk (HR1.out.below hb)
      clear HX1 HR1
      have HX1 := HXx1
      have HR1 := HRx1
      clear HXx1 HRx1
      clear ho hb
      have y0 := HX0.out.cell 1
      have yl0 := HX0.out.lt
      go_wp2_with fail
      clear y0 yl0
      generalize hW : World.alloc _ _ = w14
      obtain ⟨hx, hb, hs⟩ := box1 hW
      clear hW hs
      have hltx2 := hx.lt
      have hxx2 := Aside0.mk hx
      have HR2 := Aside0.mk (HO.out.below hb)
      have HX2 := hxx2
      clear hxx2 HO
      have HN14 := Aside0.mk (HNx.out.below hb)
      have HB14 := Aside0.mk (HBx.out.trans (hb.mono HNx.out.base))
      have HXx0 := Aside0.mk (HX0.out.below hb HX0.out.lt)
      have HRx0 := Aside0.mk (HR0.out.below hb)
      clear HX0 HR0
      have HX0 := HXx0
      have HR0 := HRx0
      clear HXx0 HRx0
      have HXx1 := Aside0.mk (HX1.out.below hb HX1.out.lt)
      have HRx1 := Aside0.mk (HR1.out.below hb)
      clear HX1 HR1
      have HX1 := HXx1
      have HR1 := HRx1
      clear HXx1 HRx1
      clear hx hb HNx HBx
      refine (openF_h HR0.out (by rw [HFS.out]; exact HLF.out)).mono ?_
      rw [HOS.out]
      rintro e w15 ⟨vo0, rfl, ho, hb⟩
      obtain ⟨Ao0, co0, e2⟩ := ho.slice
      subst e2
      have HB15 := Aside0.mk (HB14.out.trans (hb.mono HN14.out.base))
      have HN15 := Aside0.mk (HN14.out.below hb)
      have HXx0 := Aside0.mk (HX0.out.below hb HX0.out.lt)
      have HRx0 := Aside0.mk (HR0.out.below hb)
      clear HX0 HR0
      have HX0 := HXx0
      have HR0 := HRx0
      clear HXx0 HRx0
      have HXx1 := Aside0.mk (HX1.out.below hb HX1.out.lt)
      have HRx1 := Aside0.mk (HR1.out.below hb)
      clear HX1 HR1
      have HX1 := HXx1
      have HR1 := HRx1
      clear HXx1 HRx1
      have HXx2 := Aside0.mk (HX2.out.below hb HX2.out.lt)
      have HRx2 := Aside0.mk (HR2.out.below hb)
      clear HX2 HR2
      have HX2 := HXx2
      have HR2 := HRx2
      clear HXx2 HRx2
      clear ho hb
      have y := HX1.out.cell 1
      have yl := HX1.out.lt
      go_wp2_with fail
      clear y yl
      refine (openF_h HR1.out (by exact HLF.out)).mono ?_
      rw [HOP.out]
      rintro e w16 ⟨vo1, rfl, ho, hb⟩
      obtain ⟨Ao1, co1, e2⟩ := ho.slice
      subst e2
      have HB16 := Aside0.mk (HB15.out.trans (hb.mono HN15.out.base))
      have HN16 := Aside0.mk (HN15.out.below hb)
      have HXx0 := Aside0.mk (HX0.out.below hb HX0.out.lt)
      have HRx0 := Aside0.mk (HR0.out.below hb)
      clear HX0 HR0
      have HX0 := HXx0
      have HR0 := HRx0
      clear HXx0 HRx0
      have HXx1 := Aside0.mk (HX1.out.below hb HX1.out.lt)
      have HRx1 := Aside0.mk (HR1.out.below hb)
      clear HX1 HR1
      have HX1 := HXx1
      have HR1 := HRx1
      clear HXx1 HRx1
      have HXx2 := Aside0.mk (HX2.out.below hb HX2.out.lt)
      have HRx2 := Aside0.mk (HR2.out.below hb)
      clear HX2 HR2
      have HX2 := HXx2
      have HR2 := HRx2
      clear HXx2 HRx2
      have HQ := Aside0.mk ho.rd
      clear ho hb
      have y := HX2.out.cell 1
      have yl := HX2.out.lt
      go_wp2_with fail
      clear y yl
      refine (openF_h HR2.out (by rw [HFS.out]; exact HLF.out)).mono ?_
      rw [HOS.out]
      rintro e w17 ⟨vo2, rfl, ho, hb⟩
      obtain ⟨Ao2, co2, e2⟩ := ho.slice
      subst e2
      have HB17 := Aside0.mk (HB16.out.trans (hb.mono HN16.out.base))
      have HN17 := Aside0.mk (HN16.out.below hb)
      have HXx0 := Aside0.mk (HX0.out.below hb HX0.out.lt)
      have HRx0 := Aside0.mk (HR0.out.below hb)
      clear HX0 HR0
      have HX0 := HXx0
      have HR0 := HRx0
      clear HXx0 HRx0
      have HXx1 := Aside0.mk (HX1.out.below hb HX1.out.lt)
      have HRx1 := Aside0.mk (HR1.out.below hb)
      clear HX1 HR1
      have HX1 := HXx1
      have HR1 := HRx1
      clear HXx1 HRx1
      have HXx2 := Aside0.mk (HX2.out.below hb HX2.out.lt)
      have HRx2 := Aside0.mk (HR2.out.below hb)
      clear HX2 HR2
      have HX2 := HXx2
      have HR2 := HRx2
      clear HXx2 HRx2
      have HQ2 := Aside0.mk (HQ.out.below hb)
      clear ho hb
      have y0 := HX0.out.cell 2
      have y1 := HX1.out.cell 2
      have y2 := HX2.out.cell 2
      have k1 := rd_string HQ2.out
      have k2 := rd_string (HV.out.below HB17.out)
      go_wp2_with fail
      refine (known28_h _).mono ?_
      rintro e w18 ⟨rfl, hb⟩
      have HBz := Aside0.mk (HB17.out.trans (hb.mono HB17.out.size))
      clear y0 y1 y2 k1 k2 hb
      go_wp2
      go_ret
      exact ⟨rfl, HBz.out⟩
end Go.Proofs.Ytgmbleaecfmfiaa.Given
