/- THE CONTRACT OF commonplaceref28.Net.Spoil. No condition beyond what it says. -/
import Derived.Test.YtgmbleaecfmfiaaNetRef
namespace Go.Proofs.Ytgmbleaecfmfiaa.Given
open Go.RowKit Go.Shelf Go.Proofs.YtgmbleaecfmfiaaW.PrintWords Go.Proofs.YtgmbleaecfmfiaaW.PrintLast Go.Proofs.YtgmbleaecfmfiaaW.PrintMore Go.Proofs.Ytgmbleaecfmfiaa.PS
set_option linter.unusedVariables false
/-- a letter of a bag of the call's own is written whole -/
theorem bag_set {w : World} {base r c i : Nat} {L : List Lt} {l' : Lt} {v1 : Value} (hB : Bag w base (.slice (some ⟨r, 0, none⟩) L.length c) L) (hi : i < L.length) (ho : Own w base v1 l'.fr) :
    Bag (((w.setCell ⟨r, i * 3, none⟩ (.int .u64 (l'.who : Int))).setCell ⟨r, i * 3 + 1, none⟩ v1).setCell ⟨r, i * 3 + 2, none⟩ (.bool l'.sp)) base (.slice (some ⟨r, 0, none⟩) L.length c) (L.set i l') := by
  obtain ⟨r', cur, _, e, hxr, hbr, hn, hc, hsz, hla⟩ := hB.open (by omega)
  obtain rfl : r = r' := by injection e with e; injection e
  clear e
  have hx1 := hxr.set (i * 3) (.int .u64 (l'.who : Int))
  have hx2 := hx1.set (i * 3 + 1) v1
  have hx3 := hx2.set (i * 3 + 2) (.bool l'.sp)
  have hlen : (L.set i l').length = L.length := by simp
  have hb2 := Bag.mk (L := L.set i l') hx3 hbr (by rw [hlen]; exact hn) hc (by simp [hsz]) ?_
  · rw [hlen] at hb2
    exact hb2
  · intro j hj
    rw [hlen] at hj
    obtain ⟨vj, a0, a1, a2, av⟩ := hla j hj
    have mv : ∀ {u : Value} {bs : List UInt8}, Own w base u bs → Own (((w.setCell ⟨r, i * 3, none⟩ (.int .u64 (l'.who : Int))).setCell ⟨r, i * 3 + 1, none⟩ v1).setCell ⟨r, i * 3 + 2, none⟩ (.bool l'.sp)) base u bs := fun h => ((h.fart hxr (by decide) _ _).fart hx1 (by decide) _ _).fart hx2 (by decide) _ _
    by_cases hij : i = j
    · subst hij
      have e1 : (L.set i l')[i]'(by rw [hlen]; exact hj) = l' := by simp
      rw [e1]
      refine ⟨v1, ?_, ?_, ?_, mv ho⟩
      · rw [Array.getElem?_setIfInBounds_ne (by omega), Array.getElem?_setIfInBounds_ne (by omega), Array.getElem?_setIfInBounds_self_of_lt (by rw [hsz]; omega)]
      · rw [Array.getElem?_setIfInBounds_ne (by omega), Array.getElem?_setIfInBounds_self_of_lt (by simp [hsz]; omega)]
      · rw [Array.getElem?_setIfInBounds_self_of_lt (by simp [hsz]; omega)]
    · have e1 : (L.set i l')[j]'(by rw [hlen]; exact hj) = L[j] := by simp [hij]
      rw [e1]
      refine ⟨vj, ?_, ?_, ?_, mv av⟩
      · rw [Array.getElem?_setIfInBounds_ne (by omega), Array.getElem?_setIfInBounds_ne (by omega), Array.getElem?_setIfInBounds_ne (by omega)]; exact a0
      · rw [Array.getElem?_setIfInBounds_ne (by omega), Array.getElem?_setIfInBounds_ne (by omega), Array.getElem?_setIfInBounds_ne (by omega)]; exact a1
      · rw [Array.getElem?_setIfInBounds_ne (by omega), Array.getElem?_setIfInBounds_ne (by omega), Array.getElem?_setIfInBounds_ne (by omega)]; exact a2
set_option maxRecDepth 100000 in
set_option maxHeartbeats 2000000 in
theorem refSpoil_out {w : World} {base g : Nat} {v : Value} {L : List Lt} (hn : NetAt 46 w base g v L) (i at_ : Int) (m : UInt8) (hi : ¬ inB L i) :
    Calls Try.prog 19 #[.pointer (some ⟨g, 0, none⟩), .int .i64 i, .int .i64 at_, .int .u8 (m.toNat : Int)] w (NetAns 46 w base g v (L, 17)) := by
  have HN := Aside0.mk hn
  obtain ⟨A, c, rfl⟩ := hn.2.2.slice
  have CI := Aside0.mk (is_h L hn.1 i)
  have HI := Aside0.mk hi
  clear hn hi
  go_enter Try.func19, Try.ntmps19
  go_wp2_with fail
  refine CI.out.mono ?_
  rintro e w1 ⟨rfl, rfl⟩
  rw [decide_eq_false HI.out]
  go_wp2
  go_ret
  exact ⟨rfl, net_same HN.out.1 HN.out.2.1 HN.out.base (Below.refl _ _) HN.out.2.2⟩
set_option maxRecDepth 100000 in
set_option maxHeartbeats 2000000 in
theorem refSpoil_neg {w : World} {base g : Nat} {v : Value} {L : List Lt} (hn : NetAt 46 w base g v L) (n : Nat) (at_ : Int) (m : UInt8) (hn1 : n < L.length) (h0 : at_ < 0) :
    Calls Try.prog 19 #[.pointer (some ⟨g, 0, none⟩), .int .i64 n, .int .i64 at_, .int .u8 (m.toNat : Int)] w (NetAns 46 w base g v (L, 17)) := by
  have HN := Aside0.mk hn
  obtain ⟨r, c, rfl⟩ := bag_block hn.2.2 (by omega)
  have CI := Aside0.mk (is_h L hn.1 n)
  have HI := Aside0.mk (show inB L n from ⟨by omega, by omega⟩)
  have q := hn.1.cell 0
  have hlt := hn.1.lt
  obtain ⟨r', cur, _, e, hxr, hbr, h1, h2, h3, hla⟩ := hn.2.2.open (by omega)
  obtain rfl : r = r' := by injection e with e; injection e
  clear e
  obtain ⟨vf, c0, c1, c2, hvf⟩ := hla n hn1
  obtain ⟨Af, cf, rfl⟩ := hvf.slice
  rw [← hxr.cell] at c0 c1 c2
  have hltr := hxr.lt
  have HVF := Aside0.mk hvf
  have HXR := Aside0.mk hxr
  clear hn hxr hbr h1 h2 h3 hla hvf
  have hd : decide (at_ < 0) = true := decide_eq_true h0
  go_enter Try.func19, Try.ntmps19
  go_wp2_with fail
  refine CI.out.mono ?_
  rintro e w1 ⟨rfl, rfl⟩
  rw [decide_eq_true HI.out]
  go_wp2
  go_ret
  exact ⟨rfl, net_same HN.out.1 HN.out.2.1 HN.out.base (Below.refl _ _) HN.out.2.2⟩
set_option maxRecDepth 100000 in
set_option maxHeartbeats 2000000 in
theorem refSpoil_big {w : World} {base g : Nat} {v : Value} {L : List Lt} (hn : NetAt 46 w base g v L) (n : Nat) (at_ : Int) (m : UInt8) (hn1 : n < L.length) (h0 : ¬ at_ < 0) (hb : (L[n].fr.length : Int) ≤ at_) :
    Calls Try.prog 19 #[.pointer (some ⟨g, 0, none⟩), .int .i64 n, .int .i64 at_, .int .u8 (m.toNat : Int)] w (NetAns 46 w base g v (L, 17)) := by
  have HN := Aside0.mk hn
  obtain ⟨r, c, rfl⟩ := bag_block hn.2.2 (by omega)
  have CI := Aside0.mk (is_h L hn.1 n)
  have HI := Aside0.mk (show inB L n from ⟨by omega, by omega⟩)
  have q := hn.1.cell 0
  have hlt := hn.1.lt
  obtain ⟨r', cur, _, e, hxr, hbr, h1, h2, h3, hla⟩ := hn.2.2.open (by omega)
  obtain rfl : r = r' := by injection e with e; injection e
  clear e
  obtain ⟨vf, c0, c1, c2, hvf⟩ := hla n hn1
  obtain ⟨Af, cf, rfl⟩ := hvf.slice
  rw [← hxr.cell] at c0 c1 c2
  have hltr := hxr.lt
  have HVF := Aside0.mk hvf
  have HXR := Aside0.mk hxr
  clear hn hxr hbr h1 h2 h3 hla hvf
  have hd : decide (at_ < 0) = false := decide_eq_false h0
  have hd2 : decide ((L[n].fr.length : Int) ≤ at_) = true := decide_eq_true hb
  generalize L[n] = l at *
  go_enter Try.func19, Try.ntmps19
  go_wp2_with fail
  refine CI.out.mono ?_
  rintro e w1 ⟨rfl, rfl⟩
  rw [decide_eq_true HI.out]
  go_wp2
  go_ret
  exact ⟨rfl, net_same HN.out.1 HN.out.2.1 HN.out.base (Below.refl _ _) HN.out.2.2⟩
set_option maxRecDepth 100000 in
set_option maxHeartbeats 2000000 in
theorem refSpoil_zero {w : World} {base g : Nat} {v : Value} {L : List Lt} (hn : NetAt 46 w base g v L) (n : Nat) (at_ : Int) (m : UInt8) (hn1 : n < L.length) (h0 : ¬ at_ < 0) (hb : ¬ (L[n].fr.length : Int) ≤ at_) (hm : m = 0) :
    Calls Try.prog 19 #[.pointer (some ⟨g, 0, none⟩), .int .i64 n, .int .i64 at_, .int .u8 (m.toNat : Int)] w (NetAns 46 w base g v (L, 2)) := by
  have HN := Aside0.mk hn
  obtain ⟨r, c, rfl⟩ := bag_block hn.2.2 (by omega)
  have CI := Aside0.mk (is_h L hn.1 n)
  have HI := Aside0.mk (show inB L n from ⟨by omega, by omega⟩)
  have q := hn.1.cell 0
  have hlt := hn.1.lt
  obtain ⟨r', cur, _, e, hxr, hbr, h1, h2, h3, hla⟩ := hn.2.2.open (by omega)
  obtain rfl : r = r' := by injection e with e; injection e
  clear e
  obtain ⟨vf, c0, c1, c2, hvf⟩ := hla n hn1
  obtain ⟨Af, cf, rfl⟩ := hvf.slice
  rw [← hxr.cell] at c0 c1 c2
  have hltr := hxr.lt
  have HVF := Aside0.mk hvf
  have HXR := Aside0.mk hxr
  clear hn hxr hbr h1 h2 h3 hla hvf
  have hd : decide (at_ < 0) = false := decide_eq_false h0
  have hd2 : decide ((L[n].fr.length : Int) ≤ at_) = false := decide_eq_false hb
  subst hm
  generalize L[n] = l at *
  go_enter Try.func19, Try.ntmps19
  go_wp2_with fail
  refine CI.out.mono ?_
  rintro e w1 ⟨rfl, rfl⟩
  rw [decide_eq_true HI.out]
  go_wp2
  go_ret
  exact ⟨rfl, net_same HN.out.1 HN.out.2.1 HN.out.base (Below.refl _ _) HN.out.2.2⟩
set_option maxRecDepth 100000 in
set_option maxHeartbeats 2000000 in
theorem refSpoil_twice {w : World} {base g : Nat} {v : Value} {L : List Lt} (hn : NetAt 46 w base g v L) (n : Nat) (at_ : Int) (m : UInt8) (hn1 : n < L.length) (h0 : ¬ at_ < 0) (hb : ¬ (L[n].fr.length : Int) ≤ at_) (hm : m ≠ 0) (hs : L[n].sp = true) :
    Calls Try.prog 19 #[.pointer (some ⟨g, 0, none⟩), .int .i64 n, .int .i64 at_, .int .u8 (m.toNat : Int)] w (NetAns 46 w base g v (L, 13)) := by
  have HN := Aside0.mk hn
  obtain ⟨r, c, rfl⟩ := bag_block hn.2.2 (by omega)
  have CI := Aside0.mk (is_h L hn.1 n)
  have HI := Aside0.mk (show inB L n from ⟨by omega, by omega⟩)
  have q := hn.1.cell 0
  have hlt := hn.1.lt
  obtain ⟨r', cur, _, e, hxr, hbr, h1, h2, h3, hla⟩ := hn.2.2.open (by omega)
  obtain rfl : r = r' := by injection e with e; injection e
  clear e
  obtain ⟨vf, c0, c1, c2, hvf⟩ := hla n hn1
  obtain ⟨Af, cf, rfl⟩ := hvf.slice
  rw [← hxr.cell] at c0 c1 c2
  have hltr := hxr.lt
  have HVF := Aside0.mk hvf
  have HXR := Aside0.mk hxr
  clear hn hxr hbr h1 h2 h3 hla hvf
  have hd : decide (at_ < 0) = false := decide_eq_false h0
  have hd2 : decide ((L[n].fr.length : Int) ≤ at_) = false := decide_eq_false hb
  have hd3 : ((m.toNat : Int) == 0) = false := beq_eq_false_iff_ne.mpr (fun e => hm (UInt8.toNat_inj.mp (by simpa using e)))
  rw [hs] at c2
  clear hs hm
  generalize L[n] = l at *
  go_enter Try.func19, Try.ntmps19
  go_wp2_with fail
  refine CI.out.mono ?_
  rintro e w1 ⟨rfl, rfl⟩
  rw [decide_eq_true HI.out]
  go_wp2
  go_ret
  exact ⟨rfl, net_same HN.out.1 HN.out.2.1 HN.out.base (Below.refl _ _) HN.out.2.2⟩
set_option maxRecDepth 100000 in
set_option maxHeartbeats 2000000 in
theorem refSpoil_does {w : World} {base g : Nat} {v : Value} {L : List Lt} (hn : NetAt 46 w base g v L) (n : Nat) (at_ : Int) (m : UInt8) (hn1 : n < L.length) (h0 : ¬ at_ < 0) (hb : ¬ (L[n].fr.length : Int) ≤ at_) (hm : m ≠ 0) (hs : L[n].sp = false) (hL : (L.length + 1) * 40 ≤ 140737488355328) (hfl : L[n].fr.length < 140737488355328) (l : Lt) (hl2 : L[n] = l) :
    Calls Try.prog 19 #[.pointer (some ⟨g, 0, none⟩), .int .i64 n, .int .i64 at_, .int .u8 (m.toNat : Int)] w (NetAns 46 w base g v (L.set n ⟨l.who, l.fr.set at_.toNat (l.fr.getD at_.toNat 0 ^^^ m), true⟩, 0)) := by
  have HN := Aside0.mk hn
  obtain ⟨r, c, rfl⟩ := bag_block hn.2.2 (by omega)
  have CI := Aside0.mk (is_h L hn.1 n)
  have HI := Aside0.mk (show inB L n from ⟨by omega, by omega⟩)
  have q := hn.1.cell 0
  have hlt := hn.1.lt
  obtain ⟨r', cur, _, e, hxr, hbr, h1, h2, h3, hla⟩ := hn.2.2.open (by omega)
  obtain rfl : r = r' := by injection e with e; injection e
  clear e
  obtain ⟨vf, c0, c1, c2, hvf⟩ := hla n hn1
  obtain ⟨Af, cf, rfl⟩ := hvf.slice
  rw [← hxr.cell] at c0 c1 c2
  have hltr := hxr.lt
  have HVF := Aside0.mk hvf
  have HXR := Aside0.mk hxr
  clear hn hxr hbr h1 h2 h3 hla hvf
  rw [hl2] at c0 c1 c2 hb hs HVF hfl
  have HL2 := Aside0.mk hl2
  clear hl2
  obtain ⟨a, rfl⟩ := Int.eq_ofNat_of_zero_le (show 0 ≤ at_ by omega)
  have hal : a < l.fr.length := by omega
  have hd : decide ((a : Int) < 0) = false := decide_eq_false h0
  have hd2 : decide (l.fr.length ≤ a) = false := decide_eq_false (by omega)
  have hd4 : decide ((l.fr.length : Int) ≤ (a : Int)) = false := decide_eq_false hb
  have hd3 : ((m.toNat : Int) == 0) = false := beq_eq_false_iff_ne.mpr (fun e => hm (UInt8.toNat_inj.mp (by simpa using e)))
  rw [hs] at c2
  have HLL := Aside0.mk (show (([] : List Lt).length + L.length) * 40 ≤ 140737488355328 by simp; omega)
  have HFL := Aside0.mk hfl
  clear hs hm h0 hb hL
  go_enter Try.func19, Try.ntmps19
  go_wp2_with fail
  refine CI.out.mono ?_
  rintro e w1 ⟨rfl, rfl⟩
  rw [decide_eq_true HI.out]
  go_wp2_with fail
  refine (own28_h HVF.out.rd (by have := HFL.out; omega)).mono ?_
  rintro e w2 ⟨v2, rfl, ho2, hb2⟩
  obtain ⟨g2, cap2, rfl, hg2⟩ := ho2.form (by omega)
  have hx2 := HN.out.1.below hb2 hlt
  have q2 := hx2.cell 0
  have hlt2 := hx2.lt
  have hg2ne : g ≠ g2 := by omega
  have hce := ho2.cell a hal
  have hfz := ho2.free a
  have hput := ho2.put a (l.fr[a] ^^^ m)
  have hxor : bits .xor .u8 (l.fr[a].toNat : Int) (m.toNat : Int) = (((l.fr[a] ^^^ m).toNat : Nat) : Int) := by
    rw [u8_xor_nat _ _ (l.fr[a].toNat_lt) (m.toNat_lt), UInt8.toNat_xor]
  have HXO := Aside0.mk hxor
  have HPUT := Aside0.mk hput
  have HB2 := Aside0.mk hb2
  have HX2 := Aside0.mk hx2
  have HBAG2 := Aside0.mk (HN.out.2.2.below hb2)
  have HLT2 := Aside0.mk ho2.lt
  obtain ⟨W3, hW3⟩ : ∃ W3, W3 = w2.setCell ⟨g2, a, none⟩ (.int .u8 (bits .xor .u8 (l.fr[a].toNat : Int) (m.toNat : Int))) := ⟨_, rfl⟩
  have hb3 : Below w1.heap.size w1 W3 := by
    rw [hW3]
    exact hb2.setCell (p := ⟨g2, a, none⟩) hg2 _
  have ho3 : Own W3 w1.heap.size (.slice (some ⟨g2, 0, none⟩) l.fr.length cap2) (l.fr.set a (l.fr[a] ^^^ m)) := by
    rw [hW3, hxor]
    exact hput
  have hx3 := HN.out.1.below hb3 hlt
  have q3 := hx3.cell 0
  have hlt3 := hx3.lt
  have HRD3 := Aside0.mk (bag_reads (HN.out.2.2.below hb3))
  have HB3 := Aside0.mk hb3
  have HO3 := Aside0.mk ho3
  have HX3 := Aside0.mk hx3
  have HW3 := Aside0.mk hW3
  have hbase := HN.out.base
  have HBS3 := Aside0.mk (Nat.le_trans hbase hb3.size)
  clear hxor hput hb2 hx2 ho2 hW3 hb3 ho3 hx3
  go_wp2_with (at_builtin; rw [← HW3.out]; refine Kd.R_append_rows dL (w0 := w1) base rfl (.const (.slice none 0 0)) (.tmp 63) 26 36 (.agg #[.int .u64 0, .slice none 0 0, .bool false]) 40 rfl Try.underlying26 info36 rfl (by decide) (by decide) (.slice none 0 0) [] L (some ⟨r, 0, none⟩) L.length c (fun _ => True) (fun _ => True) rfl rfl (Bag.nil W3 base) HRD3.out (fun _ _ h => h) (fun _ _ => ⟨trivial, by simp [Value.ownBlock]⟩) (fun _ _ => trivial) (HB3.out.mono hbase) HBS3.out HLL.out ?_
               intro v4 w4 hR4 hB4 hG4 hAt4
               have hbag4 : Bag w4 base v4 L := hR4
               obtain ⟨r4, c4, e4⟩ := bag_block hbag4 (by omega)
               subst e4
               have hb34 : Below W3.heap.size W3 w4 := ⟨hG4.os, hG4.tape, hG4.output, hG4.size, fun k hk => hG4.block k hk (by simp [Value.ownBlock])⟩
               have hr4 : W3.heap.size ≤ r4 := (by
                 rcases hAt4 with h | ⟨b, h, hb⟩
                 · simp [Value.ownBlock] at h
                 · have : r4 = b := by simpa [Value.ownBlock] using h
                   omega)
               obtain ⟨r', cur4, _, e5, hxr4, _, _, _, _, hla4⟩ := hbag4.open (by omega)
               obtain rfl : r4 = r' := by injection e5 with e5; injection e5
               clear e5
               obtain ⟨vf4, d0, d1, d2, hvf4⟩ := hla4 n hn1
               rw [← hxr4.cell] at d0 d1 d2
               rw [HL2.out] at d0 d2
               have e0 := hxr4.fz (n * 3)
               have e1 := hxr4.fz (n * 3 + 1)
               have e2 := hxr4.fz (n * 3 + 2)
               have hltr4 := hxr4.lt
               have hx4 := HX3.out.below hb34 HX3.out.lt
               have q4 := hx4.cell 0
               have f4 := hx4.fz 0
               have hlt4 := hx4.lt
               have hgr4 : g ≠ r4 := hx4.ne hxr4 (by decide)
               have HBAG4 := Aside0.mk hbag4
               have HB34 := Aside0.mk hb34
               have HR4 := Aside0.mk hr4
               have HX4 := Aside0.mk hx4
               clear hR4 hB4 hG4 hAt4 hbag4 hb34 hr4 hxr4 hla4 hvf4 hx4)
  go_ret
  have hS3 := HB3.out.size
  have ho4 := (HO3.out.below HB34.out).lower hbase
  have hset := bag_set (l' := ⟨l.who, l.fr.set a (l.fr[a] ^^^ m), true⟩) HBAG4.out hn1 (v1 := .slice (some ⟨g2, 0, none⟩) l.fr.length cap2) ho4
  have hr4 := HR4.out
  have hkeep : ∀ k, k < w1.heap.size → ((((w4.setCell ⟨r4, n * 3, none⟩ (.int .u64 (l.who : Int))).setCell ⟨r4, n * 3 + 1, none⟩ (.slice (some ⟨g2, 0, none⟩) l.fr.length cap2)).setCell ⟨r4, n * 3 + 2, none⟩ (.bool true))).heap[k]? = w1.heap[k]? := fun k hk => by
    rw [Below.heap_setCell _ _ _ _ (show k ≠ r4 by omega), Below.heap_setCell _ _ _ _ (show k ≠ r4 by omega), Below.heap_setCell _ _ _ _ (show k ≠ r4 by omega), HB34.out.block k (by omega), HB3.out.block k hk]
  have hB5 : Below base w1 (((w4.setCell ⟨r4, n * 3, none⟩ (.int .u64 (l.who : Int))).setCell ⟨r4, n * 3 + 1, none⟩ (.slice (some ⟨g2, 0, none⟩) l.fr.length cap2)).setCell ⟨r4, n * 3 + 2, none⟩ (.bool true)) := by
    refine Below.setCell (Below.setCell (Below.setCell ((HB3.out.mono hbase).trans (HB34.out.mono HBS3.out)) ?_ _) ?_ _) ?_ _
    all_goals (show base ≤ r4; omega)
  refine ⟨rfl, ?_⟩
  have hown4 : ∀ k, (Value.slice (some ⟨r4, 0, none⟩) L.length c4).ownBlock = some k → w1.heap.size ≤ k := fun k hk => by
    have e7 : r4 = k := by simpa [Value.ownBlock] using hk
    omega
  have e6 : l.fr.getD a 0 = l.fr[a] := by simp [List.getD, hal]
  have hfin := net_fresh (v := .slice (some ⟨r, 0, none⟩) L.length c) (v3 := .slice (some ⟨r4, 0, none⟩) L.length c4) HN.out.1 HN.out.2.1 (((HX4.out.far (p := ⟨r4, n * 3, none⟩) hgr4 _).far (p := ⟨r4, n * 3 + 1, none⟩) hgr4 _).far (p := ⟨r4, n * 3 + 2, none⟩) hgr4 _) (fun k hk _ => hkeep k hk) (by have := HB34.out.size; simp; omega) hB5 hset hown4 (by decide) (by decide)
  exact hfin
theorem refSpoilM_h {w : World} {base g : Nat} {v : Value} {L : List Lt} (hn : NetAt 46 w base g v L) (i at_ : Int) (m : UInt8) (hL : (L.length + 1) * 40 ≤ 140737488355328) (hl : ∀ l, l ∈ L → l.fr.length < 140737488355328) :
    Calls Try.prog 19 #[.pointer (some ⟨g, 0, none⟩), .int .i64 i, .int .i64 at_, .int .u8 (m.toNat : Int)] w (NetAns 46 w base g v (spoilN L i at_ m)) := by
  by_cases hi : inB L i
  · have hD : spoilN L i at_ m = (L.set i.toNat (spoilL (L.getD i.toNat ⟨0, [], false⟩) at_ m).1, (spoilL (L.getD i.toNat ⟨0, [], false⟩) at_ m).2) := if_pos hi
    obtain ⟨n, rfl, hn1, hg⟩ := inB_nat hi
    rw [hg, show ((n : Nat) : Int).toNat = n from rfl] at hD
    have hset : L.set n L[n] = L := set_nth (List.getElem?_eq_getElem hn1)
    rw [hD]
    by_cases h0 : at_ < 0
    · have e : spoilL L[n] at_ m = (L[n], 17) := by
        have e0 : spoilF at_ m L[n].fr = ([], 17) := if_pos (.inl h0)
        unfold spoilL; rw [e0]; simp
      rw [e, hset]
      exact refSpoil_neg hn n at_ m hn1 h0
    · by_cases hb : (L[n].fr.length : Int) ≤ at_
      · have e : spoilL L[n] at_ m = (L[n], 17) := by
          have e0 : spoilF at_ m L[n].fr = ([], 17) := if_pos (.inr hb)
          unfold spoilL; rw [e0]; simp
        rw [e, hset]
        exact refSpoil_big hn n at_ m hn1 h0 hb
      · have hor : ¬ (at_ < 0 ∨ (L[n].fr.length : Int) ≤ at_) := fun h => h.elim h0 hb
        by_cases hm : m = 0
        · have e : spoilL L[n] at_ m = (L[n], 2) := by
            have e0 : spoilF at_ m L[n].fr = ([], 2) := (if_neg hor).trans (if_pos hm)
            unfold spoilL; rw [e0]; simp
          rw [e, hset]
          exact refSpoil_zero hn n at_ m hn1 h0 hb hm
        · by_cases hs : L[n].sp = true
          · have e : spoilL L[n] at_ m = (L[n], 13) := by
              have e0 : spoilF at_ m L[n].fr = (L[n].fr.set at_.toNat (L[n].fr.getD at_.toNat 0 ^^^ m), 0) := (if_neg hor).trans (if_neg hm)
              unfold spoilL; rw [e0]; simp [hs]
            rw [e, hset]
            exact refSpoil_twice hn n at_ m hn1 h0 hb hm hs
          · rw [Bool.not_eq_true] at hs
            have e : spoilL L[n] at_ m = (⟨L[n].who, L[n].fr.set at_.toNat (L[n].fr.getD at_.toNat 0 ^^^ m), true⟩, 0) := by
              have e0 : spoilF at_ m L[n].fr = (L[n].fr.set at_.toNat (L[n].fr.getD at_.toNat 0 ^^^ m), 0) := (if_neg hor).trans (if_neg hm)
              unfold spoilL; rw [e0]; simp [hs]
            rw [e]
            exact refSpoil_does hn n at_ m hn1 h0 hb hm hs hL (hl _ (List.getElem_mem hn1)) L[n] rfl
  · have hD : spoilN L i at_ m = (L, 17) := if_neg hi
    rw [hD]
    exact refSpoil_out hn i at_ m hi
end Go.Proofs.Ytgmbleaecfmfiaa.Given
