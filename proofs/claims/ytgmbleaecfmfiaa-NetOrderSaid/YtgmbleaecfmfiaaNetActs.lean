/- THE CONTRACTS OF net.Net's METHODS Double, At, Spoil, of letters. No condition beyond what each says. -/
import Derived.Test.YtgmbleaecfmfiaaNetRow
namespace Go.Proofs.Ytgmbleaecfmfiaa.Given
open Go.RowKit Go.Proofs.YtgmbleaecfmfiaaW.PrintWords Go.Proofs.YtgmbleaecfmfiaaW.PrintLast Go.Proofs.YtgmbleaecfmfiaaW.PrintMore Go.Proofs.Ytgmbleaecfmfiaa.PS
set_option linter.unusedVariables false
set_option maxRecDepth 100000 in
set_option maxHeartbeats 8000000 in
theorem double1_h {w : World} {base g b : Nat} {v : Value} {L : List Lt} (hn : NetAt 28 w base g v L) (hb : Bx w b 25 #[.pointer (some ⟨g, 0, none⟩)]) (i : Nat) (hi : i < L.length) (r : Nat) (hr : v.ownBlock = some r) (hl : L[i].fr.length ≤ 140737488355328) (hL : (L.length + 1) * 40 ≤ 140737488355328) :
    Calls Try.prog 31 #[.pointer (some ⟨r, i * 3, none⟩), .pointer (some ⟨b, 0, none⟩)] w fun e w' => e = .returned (.int .i64 0) ∧ NetTo 28 w base g v (L ++ [L[i]]) w' := by
  obtain ⟨hx, hg, hbag⟩ := hn
  have hlt := hx.lt
  have hltb := hb.lt
  have hbase : base ≤ w.heap.size := by omega
  have hne := hbag.ne hx (by decide)
  obtain ⟨A, c, rfl⟩ := hbag.slice
  obtain ⟨r', cur, _, rfl, hxr, hbr, h1, h2, h3, hla⟩ := hbag.open (by omega)
  obtain rfl : r' = r := by simpa [Value.ownBlock] using hr
  obtain ⟨vf, c0, c1, c2, hvf⟩ := hla i hi
  obtain ⟨Af, cf, rfl⟩ := hvf.slice
  rw [← hxr.cell] at c0 c1 c2
  have hltr := hxr.lt
  generalize L[i] = l at *
  have q := hx.cell 0
  have f := hx.fz 0
  have qb := hb.cell 0
  have HX := Aside0.mk hx
  have HXB := Aside0.mk hb
  have HG := Aside0.mk hg
  have HNE := Aside0.mk hne
  have HBAG := Aside0.mk hbag
  have HVF := Aside0.mk hvf.rd
  have HLL := Aside0.mk hL
  clear hx hg hbag hL hne hb hxr hbr h1 h2 h3 hla hvf hr
  go_enter Try.func31, Try.ntmps31
  go_wp2_with fail
  go_region_law (first
    | (refine Kd.R_append_step dL (w0 := w) base (by simp [Region.wanted]) (.tmp 8) (.tmp 13) 26 36 (.agg #[.int .u64 0, .slice none 0 0, .bool false]) 40 rfl Try.underlying26 info36 rfl (by decide) (by decide) (.slice (some ⟨r', 0, none⟩) L.length c) L l [.int .u64 (l.who : Int), .slice A1 l.fr.length c1', .bool l.sp] (fun _ => True) (fun k => some k ≠ (Value.slice (some ⟨r', 0, none⟩) L.length c).ownBlock) rfl rfl HM.out (fun _ h => ⟨trivial, h⟩) (fun _ _ => trivial) (HBAG.out.below HB1.out) (HB1.out.mono hbase) (by have := HB1.out.size; omega) HLL.out ?_
       intro v2 w2 hR2 hB2 hG2 hAt2
       obtain ⟨A2, c2', e2⟩ := Kd.R_slice hR2
       rw [show (L ++ [l]).length = L.length + 1 by simp] at e2
       subst e2
       have hx2 := (HX.out.below HB1.out hlt).grown hG2 HNE.out
       have q2 := hx2.cell 0
       have f2 := hx2.fz 0
       have hlt2 := hx2.lt
       have hxb2 := (HXB.out.below HB1.out hltb).grown hG2 (HBAG.out.ne HXB.out (by decide))
       have qb2 := hxb2.cell 0
       have HE := Aside0.mk (net_put HX.out HG.out HNE.out HB1.out hR2 hB2 hG2 hAt2 (by decide) (by decide))
       clear hx2 hR2 hB2 hG2 hAt2 hxb2)
    | (go_simp; go_at_call 29; refine (letOwn_h l (HVF.out.below (Below.refl _ _).drew) hl).mono ?_; rintro e w1 ⟨v1, rfl, ho1, hb1⟩
       obtain ⟨A1, c1', rfl⟩ := ho1.slice
       have HB1 : Aside0 (Below w.heap.size w w1) := ⟨(Below.refl _ _).drew.trans hb1⟩
       have HM := Aside0.mk (let_new (v1 := .slice A1 l.fr.length c1') l HBAG.out hbase ho1)
       have q1 := (HX.out.below HB1.out hlt).cell 0
       have hlt1 : g < w1.heap.size := Nat.lt_of_lt_of_le hlt HB1.out.size
       have qb1 := (HXB.out.below HB1.out hltb).cell 0
       have hltb1 : b < w1.heap.size := Nat.lt_of_lt_of_le hltb HB1.out.size
       clear ho1 hb1))
  all_goals go_wp2
  all_goals go_ret
  all_goals exact ⟨rfl, HE.out⟩
set_option maxRecDepth 100000 in
set_option maxHeartbeats 1000000 in
theorem at1_h {w : World} {base b r k : Nat} {cur cb : Array Value} {l : Lt} (hxr : Bx w r 36 cur) (hl : LetAt w base cur k l) (hb : Bx w b 36 cb) (hcb : ∃ x0 x1 x2, cb = #[x0, x1, x2]) (hll : l.fr.length ≤ 140737488355328) :
    Calls Try.prog 32 #[.pointer (some ⟨r, k, none⟩), .pointer (some ⟨b, 0, none⟩)] w fun e w' => e = .returned (.int .i64 0) ∧ ∃ v', Bx w' b 36 #[.int .u64 (l.who : Int), v', .bool l.sp] ∧ Own w' w.heap.size v' l.fr ∧ Below b w w' := by
  obtain ⟨vf, c0, c1, c2, hvf⟩ := hl
  obtain ⟨Af, cf, rfl⟩ := hvf.slice
  obtain ⟨x0, x1, x2, rfl⟩ := hcb
  rw [← hxr.cell] at c0 c1 c2
  have hltr := hxr.lt
  have hltb := hb.lt
  have HXB := Aside0.mk hb
  have HVF := Aside0.mk hvf.rd
  clear hb hvf hxr
  go_enter Try.func32, Try.ntmps32
  go_wp2_with fail
  refine (letOwn_h l HVF.out hll).mono ?_
  rintro e w1 ⟨v1, rfl, ho1, hb1⟩
  obtain ⟨A1, c1', rfl⟩ := ho1.slice
  have hx1 := HXB.out.below hb1 hltb
  have q0 := hx1.cell 0
  have q1 := hx1.cell 1
  have q2 := hx1.cell 2
  have f0 := hx1.fz 0
  have f1 := hx1.fz 1
  have f2 := hx1.fz 2
  have HX1 := Aside0.mk hx1
  have HO1 := Aside0.mk ho1
  have HB1 := Aside0.mk hb1
  clear hx1 ho1 hb1
  go_wp2
  go_ret
  refine ⟨rfl, _, ((HX1.out.set 0 _).set 1 _).set 2 _, ?_, ?_⟩
  · exact ((HO1.out.fart HX1.out (by decide) 0 _).fart (HX1.out.set 0 _) (by decide) 1 _).fart ((HX1.out.set 0 _).set 1 _) (by decide) 2 _
  · exact (((HB1.out.mono (Nat.le_of_lt hltb)).setCell (p := ⟨b, 0, none⟩) (Nat.le_refl _) _).setCell (p := ⟨b, 1, none⟩) (Nat.le_refl _) _).setCell (p := ⟨b, 2, none⟩) (Nat.le_refl _) _
end Go.Proofs.Ytgmbleaecfmfiaa.Given
