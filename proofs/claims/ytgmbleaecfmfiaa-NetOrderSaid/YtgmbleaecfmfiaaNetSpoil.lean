/- THE CONTRACT OF net.Net.Spoil's act, of letters. No condition beyond what it says. -/
import Derived.Test.YtgmbleaecfmfiaaNetRow
import Derived.Deep.RegionWith
namespace Go.Proofs.Ytgmbleaecfmfiaa.Given
open Go.RowKit Go.Proofs.YtgmbleaecfmfiaaW.PrintWords Go.Proofs.YtgmbleaecfmfiaaW.PrintLast Go.Proofs.YtgmbleaecfmfiaaW.PrintMore Go.Proofs.Ytgmbleaecfmfiaa.PS
set_option linter.unusedVariables false
/-- what Spoil makes of a letter -/
def spoilL (l : Lt) (at_ : Int) (m : UInt8) : Lt × Int := if (spoilF at_ m l.fr).2 ≠ 0 then (l, (spoilF at_ m l.fr).2) else if l.sp then (l, 13) else (⟨l.who, (spoilF at_ m l.fr).1, true⟩, 0)
theorem set_nth {L : List Lt} {i : Nat} {l : Lt} (h : L[i]? = some l) : L.set i l = L := by
  apply List.ext_getElem?
  intro j
  rw [List.getElem?_set]
  by_cases e : i = j
  · subst e
    obtain ⟨hlt, _⟩ := List.getElem?_eq_some_iff.1 h
    rw [if_pos rfl, if_pos hlt, h]
  · rw [if_neg e]
/-- nothing has been written but new memory -/
theorem net_same {t : TypeId} {w w1 : World} {base g : Nat} {v : Value} {L : List Lt} (hx : Bx w g t #[v]) (hg : base ≤ g) (hbase : base ≤ w.heap.size) (hb : Below w.heap.size w w1) (hB : Bag w base v L) : NetTo t w base g v L w1 :=
  ⟨v, ⟨hx.below hb hx.lt, hg, hB.below hb⟩, hb.mono hbase, KeepBut.of_below hb _ _, .inl rfl⟩
/-- a letter's frame and mark have been written -/
theorem net_spoilt {t : TypeId} {w w1 : World} {base g r c i : Nat} {cur : Array Value} {L : List Lt} {l : Lt} {v1 : Value} {fs : List UInt8} (hx : Bx w g t #[.slice (some ⟨r, 0, none⟩) L.length c]) (hg : base ≤ g) (hbase : base ≤ w.heap.size) (hb : Below w.heap.size w w1) (hB : Bag w base (.slice (some ⟨r, 0, none⟩) L.length c) L) (hxr : Bx w r 36 cur)
    (hi : L[i]? = some l) (ho : Own w1 w.heap.size v1 fs) (h1 : t ≠ 36) :
    NetTo t w base g (.slice (some ⟨r, 0, none⟩) L.length c) (L.set i ⟨l.who, fs, true⟩) ((w1.setCell ⟨r, i * 3 + 1, none⟩ v1).setCell ⟨r, i * 3 + 2, none⟩ (.bool true)) := by
  obtain ⟨hil, hil2⟩ := List.getElem?_eq_some_iff.1 hi
  obtain ⟨r', cur', _, e, hxr', hbr, hn, hc, hsz, hla⟩ := hB.open (by omega)
  obtain rfl : r = r' := by injection e with e; injection e
  obtain rfl : cur' = cur := by
    have e2 := hxr.symm.trans hxr'
    injection e2 with e2
    injection e2 with e2
    exact e2.symm
  clear e
  have hx1 : Bx w1 r 36 cur' := hxr.below hb hxr.lt
  have hx2 := (hx1.set (i * 3 + 1) v1).set (i * 3 + 2) (.bool true)
  have hgr : g ≠ r := hx.ne hxr h1
  have hgx : Bx w1 g t #[.slice (some ⟨r, 0, none⟩) L.length c] := hx.below hb hx.lt
  have hlen : (L.set i ⟨l.who, fs, true⟩).length = L.length := by simp
  refine ⟨.slice (some ⟨r, 0, none⟩) L.length c, ⟨(hgx.far (p := ⟨r, i * 3 + 1, none⟩) hgr _).far (p := ⟨r, i * 3 + 2, none⟩) hgr _, hg, ?_⟩, ((hb.mono hbase).setCell hbr _).setCell hbr _, ?_, .inl rfl⟩
  · have hb2 := Bag.mk (L := L.set i ⟨l.who, fs, true⟩) hx2 hbr (by rw [hlen]; exact hn) hc (by simp [hsz]) ?_
    · rw [hlen] at hb2
      exact hb2
    · intro j hj
      rw [hlen] at hj
      obtain ⟨vj, a0, a1, a2, av⟩ := hla j hj
      have av2 : Own ((w1.setCell ⟨r, i * 3 + 1, none⟩ v1).setCell ⟨r, i * 3 + 2, none⟩ (.bool true)) base vj L[j].fr := ((av.below hb).fart hx1 (by decide) _ _).fart (hx1.set _ _) (by decide) _ _
      by_cases hij : i = j
      · subst hij
        have e1 : (L.set i ⟨l.who, fs, true⟩)[i]'(by rw [hlen]; exact hj) = ⟨l.who, fs, true⟩ := by simp
        rw [e1]
        refine ⟨v1, ?_, ?_, ?_, ?_⟩
        · rw [hil2] at a0
          rw [Array.getElem?_setIfInBounds_ne (by omega), Array.getElem?_setIfInBounds_ne (by omega)]
          exact a0
        · rw [Array.getElem?_setIfInBounds_ne (by omega), Array.getElem?_setIfInBounds_self_of_lt (by rw [hsz]; omega)]
        · rw [Array.getElem?_setIfInBounds_self_of_lt (by simp [hsz]; omega)]
        · exact ((ho.lower hbase).fart hx1 (by decide) _ _).fart (hx1.set _ _) (by decide) _ _
      · have e1 : (L.set i ⟨l.who, fs, true⟩)[j]'(by rw [hlen]; exact hj) = L[j] := by simp [hij]
        rw [e1]
        refine ⟨vj, ?_, ?_, ?_, av2⟩
        · rw [Array.getElem?_setIfInBounds_ne (by omega), Array.getElem?_setIfInBounds_ne (by omega)]; exact a0
        · rw [Array.getElem?_setIfInBounds_ne (by omega), Array.getElem?_setIfInBounds_ne (by omega)]; exact a1
        · rw [Array.getElem?_setIfInBounds_ne (by omega), Array.getElem?_setIfInBounds_ne (by omega)]; exact a2
  · refine ⟨?_, fun k hk hkg hkr => ?_⟩
    · have := hb.size
      simp
      omega
    · have hkr' : k ≠ r := fun e => hkr (by simp [Value.ownBlock, e])
      rw [Below.heap_setCell _ _ _ _ hkr', Below.heap_setCell _ _ _ _ hkr']
      exact hb.block k hk
set_option maxRecDepth 100000 in
set_option maxHeartbeats 1000000 in
theorem spoil1_h {w : World} {base g b1 b2 : Nat} {v : Value} {L : List Lt} (hn : NetAt 28 w base g v L) (at_ : Int) (hat : -9223372036854775808 ≤ at_ ∧ at_ ≤ 9223372036854775807) (m : UInt8) (hb1 : Bx w b1 3 #[.int .i64 at_]) (hb2 : Bx w b2 5 #[.int .u8 (m.toNat : Int)])
    (i : Nat) (hi : i < L.length) (r : Nat) (hr : v.ownBlock = some r) (hl : L[i].fr.length < 140737488355328) :
    Calls Try.prog 33 #[.pointer (some ⟨r, i * 3, none⟩), .pointer (some ⟨b1, 0, none⟩), .pointer (some ⟨b2, 0, none⟩)] w fun e w' => e = .returned (.int .i64 (spoilL L[i] at_ m).2) ∧ NetTo 28 w base g v (L.set i (spoilL L[i] at_ m).1) w' := by
  obtain ⟨hx, hg, hbag⟩ := hn
  have hbase : base ≤ w.heap.size := by have := hx.lt; omega
  have hne := hbag.ne hx (by decide)
  have HNB := Aside0.mk hbag
  obtain ⟨A, c, rfl⟩ := hbag.slice
  obtain ⟨r', cur, _, rfl, hxr, hbr, h1, h2, h3, hla⟩ := hbag.open (by omega)
  obtain rfl : r' = r := by simpa [Value.ownBlock] using hr
  have HLA := Aside0.mk hla
  obtain ⟨vf, c0, c1, c2, hvf⟩ := hla i hi
  obtain ⟨Af, cf, rfl⟩ := hvf.slice
  rw [← hxr.cell] at c0 c1 c2
  have hltr := hxr.lt
  have hlt1 := hb1.lt
  have hlt2 := hb2.lt
  have hlt := hx.lt
  have HLI := Aside0.mk (show L[i]? = some L[i] from List.getElem?_eq_getElem hi)
  generalize L[i] = l at *
  have qb1 := hb1.cell 0
  have qb2 := hb2.cell 0
  have f0 := hxr.fz (i * 3)
  have HX := Aside0.mk hx
  have HXR := Aside0.mk hxr
  have HXB1 := Aside0.mk hb1
  have HXB2 := Aside0.mk hb2
  have HG := Aside0.mk hg
  have HNE := Aside0.mk hne
  have HVF := Aside0.mk hvf.rd
  have HC0 := Aside0.mk c0
  have HC1 := Aside0.mk c1
  have HC2 := Aside0.mk c2
  have HSZ := Aside0.mk h3
  clear hx hg hbag hne hb1 hb2 hxr hbr hla hvf hr h3 h2 h1
  obtain ⟨fs, es, hsp⟩ : ∃ fs es, spoilF at_ m l.fr = (fs, es) := ⟨_, _, rfl⟩
  have HSP := Aside0.mk hsp
  have HUN : Aside0 (spoilL l at_ m = if es ≠ 0 then (l, es) else if l.sp then (l, 13) else (⟨l.who, fs, true⟩, 0)) := ⟨by unfold spoilL; rw [hsp]⟩
  clear hsp
  by_cases he : es ≠ 0
  · have hd : (es != 0) = true := by rw [bne_iff_ne]; exact he
    have HU := Aside0.mk (HUN.out.trans (if_pos he))
    clear he HUN
    go_enter Try.func33, Try.ntmps33
    go_wp2_with fail
    go_region_with (go_at_call 34; refine (spoil_h at_ hat m (HVF.out.below (Below.refl _ _).drew) hl).mono ?_; rintro e w1 ⟨v1, rfl, ho1, hb1⟩
                    rw [HSP.out] at ho1
                    rw [HSP.out]
                    obtain ⟨A1, c1', rfl⟩ := ho1.slice
                    have HO1 := Aside0.mk ho1
                    have HB1 : Aside0 (Below w.heap.size w w1) := ⟨(Below.refl _ _).drew.trans hb1⟩
                    have hx1 := HXR.out.below HB1.out hltr
                    have d1 : w1.cell? ⟨r', i * 3 + 1, none⟩ = some (.slice Af l.fr.length cf) := by rw [HB1.out.cell (p := ⟨r', i * 3 + 1, none⟩) hltr]; exact HC1.out
                    have d2 : w1.cell? ⟨r', i * 3 + 2, none⟩ = some (.bool l.sp) := by rw [HB1.out.cell (p := ⟨r', i * 3 + 2, none⟩) hltr]; exact HC2.out
                    have f1 := hx1.fz (i * 3 + 1)
                    have f2 := hx1.fz (i * 3 + 2)
                    clear ho1 hb1 hx1)
    all_goals go_wp2
    all_goals go_ret
    all_goals exact ⟨by rw [HU.out]; rfl, by rw [HU.out, set_nth HLI.out]; exact net_same HX.out HG.out hbase HB1.out HNB.out⟩
  · obtain rfl : es = 0 := by omega
    obtain ⟨who, fr, sp⟩ := l
    cases sp
    · have HU := Aside0.mk (HUN.out.trans ((if_neg (by simp)).trans (if_neg (show ¬ (⟨who, fr, false⟩ : Lt).sp = true by simp))))
      clear HUN
      go_enter Try.func33, Try.ntmps33
      go_wp2_with fail
      go_region_with (go_at_call 34; refine (spoil_h at_ hat m (HVF.out.below (Below.refl _ _).drew) hl).mono ?_; rintro e w1 ⟨v1, rfl, ho1, hb1⟩
                      rw [HSP.out] at ho1
                      rw [HSP.out]
                      obtain ⟨A1, c1', rfl⟩ := ho1.slice
                      have HO1 := Aside0.mk ho1
                      have HB1 : Aside0 (Below w.heap.size w w1) := ⟨(Below.refl _ _).drew.trans hb1⟩
                      have hx1 := HXR.out.below HB1.out hltr
                      have d1 : w1.cell? ⟨r', i * 3 + 1, none⟩ = some (.slice Af fr.length cf) := by rw [HB1.out.cell (p := ⟨r', i * 3 + 1, none⟩) hltr]; exact HC1.out
                      have d2 : w1.cell? ⟨r', i * 3 + 2, none⟩ = some (.bool false) := by rw [HB1.out.cell (p := ⟨r', i * 3 + 2, none⟩) hltr]; exact HC2.out
                      have f1 := hx1.fz (i * 3 + 1)
                      have f2 := hx1.fz (i * 3 + 2)
                      clear ho1 hb1 hx1)
      all_goals go_wp2
      all_goals go_ret
      all_goals exact ⟨by rw [HU.out]; rfl, by rw [HU.out]; exact net_spoilt HX.out HG.out hbase HB1.out HNB.out HXR.out HLI.out HO1.out (by decide)⟩
    · have HU := Aside0.mk (HUN.out.trans ((if_neg (by simp)).trans (if_pos (show (⟨who, fr, true⟩ : Lt).sp = true from rfl))))
      clear HUN
      go_enter Try.func33, Try.ntmps33
      go_wp2_with fail
      go_region_with (go_at_call 34; refine (spoil_h at_ hat m (HVF.out.below (Below.refl _ _).drew) hl).mono ?_; rintro e w1 ⟨v1, rfl, ho1, hb1⟩
                      rw [HSP.out] at ho1
                      rw [HSP.out]
                      obtain ⟨A1, c1', rfl⟩ := ho1.slice
                      have HO1 := Aside0.mk ho1
                      have HB1 : Aside0 (Below w.heap.size w w1) := ⟨(Below.refl _ _).drew.trans hb1⟩
                      have hx1 := HXR.out.below HB1.out hltr
                      have d1 : w1.cell? ⟨r', i * 3 + 1, none⟩ = some (.slice Af fr.length cf) := by rw [HB1.out.cell (p := ⟨r', i * 3 + 1, none⟩) hltr]; exact HC1.out
                      have d2 : w1.cell? ⟨r', i * 3 + 2, none⟩ = some (.bool true) := by rw [HB1.out.cell (p := ⟨r', i * 3 + 2, none⟩) hltr]; exact HC2.out
                      have f1 := hx1.fz (i * 3 + 1)
                      have f2 := hx1.fz (i * 3 + 2)
                      clear ho1 hb1 hx1)
      all_goals go_wp2
      all_goals go_ret
      all_goals exact ⟨by rw [HU.out]; rfl, by rw [HU.out, set_nth HLI.out]; exact net_same HX.out HG.out hbase HB1.out HNB.out⟩
end Go.Proofs.Ytgmbleaecfmfiaa.Given
