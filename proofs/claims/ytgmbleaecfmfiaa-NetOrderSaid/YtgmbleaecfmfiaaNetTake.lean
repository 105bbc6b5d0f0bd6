/- THE CONTRACTS OF net.Net.Take's act. No condition beyond what it says. -/
import Derived.Test.YtgmbleaecfmfiaaNetDel
import Derived.Test.YtgmbleaecfmfiaaNetSpoil
import Derived.Deep.RegionLaw
namespace Go.Proofs.Ytgmbleaecfmfiaa.Given
open Go.RowKit Go.Proofs.YtgmbleaecfmfiaaW.PrintWords Go.Proofs.YtgmbleaecfmfiaaW.PrintLast Go.Proofs.YtgmbleaecfmfiaaW.PrintMore Go.Proofs.Ytgmbleaecfmfiaa.PS
set_option linter.unusedVariables false
/-- what the act of Take leaves -/
def TakeTo (w : World) (base g b0 r c : Nat) (l : Lt) (L : List Lt) (w' : World) : Prop :=
  ∃ vf, Bx w' b0 36 #[.int .u64 (l.who : Int), vf, .bool l.sp] ∧ Own w' base vf l.fr ∧ NetAt 28 w' base g (.slice (some ⟨r, 0, none⟩) L.length c) L ∧ Below base w w' ∧ ∀ k, k < w.heap.size → k ≠ g → k ≠ b0 → k ≠ r → w'.heap[k]? = w.heap[k]?
theorem LetAt.keep {w w1 : World} {base k : Nat} {cur : Array Value} {l : Lt} (h : LetAt w base cur k l) (hm : ∀ k cells, Bx w k 5 cells → w1.heap[k]? = w.heap[k]?) : LetAt w1 base cur k l := by
  obtain ⟨v, a, b, c, hv⟩ := h
  exact ⟨v, a, b, c, hv.step hm⟩
theorem take_fin {w w2 w3 w4 : World} {base g b0 r c i k : Nat} {cur cb : Array Value} {L : List Lt} {l : Lt} {vf : Value} (hx : Bx w g 28 #[.slice (some ⟨r, 0, none⟩) (i + 1 + k) c]) (hg : base ≤ g) (hb0 : base ≤ b0) (hxb : Bx w b0 36 cb) (hcb : ∃ x0 x1 x2, cb = #[x0, x1, x2]) (hbr : b0 ≠ r)
    (hxr : Bx w r 36 cur) (hr : base ≤ r) (hk : L.length = i + 1 + k) (hc : i + 1 + k ≤ c) (hm : c ≤ maxLen) (hsz : cur.size = c * 3) (hla : ∀ j (hj : j < L.length), LetAt w base cur (j * 3) L[j]) (ho : Own w base vf l.fr)
    (hw2 : w2 = ((w.setCell ⟨b0, 0, none⟩ (.int .u64 (l.who : Int))).setCell ⟨b0, 1, none⟩ vf).setCell ⟨b0, 2, none⟩ (.bool l.sp)) (hG : w2.grownBy w3 (some r)) (hx3 : Bx w3 r 36 (delC cur i k)) (hw4 : w4 = w3.setCell ⟨g, 0, none⟩ (.slice (some ⟨r, 0, none⟩) (i + k) c)) :
    TakeTo w base g b0 r c l (L.eraseIdx i) w4 := by
  obtain ⟨x0, x1, x2, rfl⟩ := hcb
  have hlen : (L.eraseIdx i).length = i + k := by rw [List.length_eraseIdx]; split <;> omega
  have hgb : g ≠ b0 := hx.ne hxb (by decide)
  have hgr : g ≠ r := hx.ne hxr (by decide)
  have hs2 : w2.heap.size = w.heap.size := by rw [hw2]; simp
  have m2 : ∀ q, q ≠ b0 → w2.heap[q]? = w.heap[q]? := fun q hq => by
    rw [hw2, Below.heap_setCell _ _ _ _ hq, Below.heap_setCell _ _ _ _ hq, Below.heap_setCell _ _ _ _ hq]
  have m4 : ∀ q, q < w.heap.size → q ≠ g → q ≠ b0 → q ≠ r → w4.heap[q]? = w.heap[q]? := fun q hq h1 h2 h3 => by
    rw [hw4, Below.heap_setCell _ _ _ _ h1, hG.block q (by omega) (fun e => h3 (by simpa using e)), m2 q h2]
  have hm8 : ∀ q cells, Bx w q 5 cells → w4.heap[q]? = w.heap[q]? := fun q cells hq => m4 q hq.lt (hq.ne hx (by decide)) (hq.ne hxb (by decide)) (hq.ne hxr (by decide))
  have hxb2 : Bx w2 b0 36 #[.int .u64 (l.who : Int), vf, .bool l.sp] := by
    rw [hw2]
    exact ((hxb.set 0 _).set 1 _).set 2 _
  have hxb3 : Bx w3 b0 36 #[.int .u64 (l.who : Int), vf, .bool l.sp] := hxb2.grown hG (fun e => hbr (by simpa using e))
  have hxb4 : Bx w4 b0 36 #[.int .u64 (l.who : Int), vf, .bool l.sp] := by
    rw [hw4]
    exact hxb3.far (p := ⟨g, 0, none⟩) hgb.symm _
  have hx2 : Bx w2 g 28 #[.slice (some ⟨r, 0, none⟩) (i + 1 + k) c] := (m2 g hgb).trans hx
  have hxg3 : Bx w3 g 28 #[.slice (some ⟨r, 0, none⟩) (i + 1 + k) c] := hx2.grown hG (fun e => hgr (by simpa using e))
  have hxg4 : Bx w4 g 28 #[.slice (some ⟨r, 0, none⟩) (i + k) c] := by
    rw [hw4]
    exact hxg3.set 0 _
  have hxr4 : Bx w4 r 36 (delC cur i k) := by
    rw [hw4]
    exact hx3.far (p := ⟨g, 0, none⟩) hgr.symm _
  have hla4 := delC_at hk (by omega) hsz (fun j hj => (hla j hj).keep hm8)
  have hbag := Bag.mk (L := L.eraseIdx i) hxr4 hr (by omega) hm (by unfold delC; rw [setL_size, setL_size, hsz]) hla4
  refine ⟨vf, hxb4, ho.step hm8, ⟨by rw [hlen]; exact hxg4, hg, hbag⟩, ⟨?_, ?_, ?_, ?_, ?_⟩, m4⟩
  · rw [hw4]; exact (hG.os.trans (by rw [hw2]; rfl))
  · rw [hw4]; exact (hG.tape.trans (by rw [hw2]; rfl))
  · rw [hw4]; exact (hG.output.trans (by rw [hw2]; rfl))
  · have := hG.size
    rw [hw4]
    simp
    omega
  · intro q hq
    rcases Nat.lt_or_ge q w.heap.size with h | h
    · exact m4 q h (by omega) (by omega) (by omega)
    · have := hxr.lt
      omega
set_option maxRecDepth 100000 in
set_option maxHeartbeats 40000000 in
theorem take1_h {w : World} {base g b0 b1 b2 r c i : Nat} {cb : Array Value} {L : List Lt} (hn : NetAt 28 w base g (.slice (some ⟨r, 0, none⟩) L.length c) L) (hi : i < L.length) (hb0 : base ≤ b0) (hxb : Bx w b0 36 cb) (hcb : ∃ x0 x1 x2, cb = #[x0, x1, x2]) (hbr : b0 ≠ r)
    (hb1 : Bx w b1 25 #[.pointer (some ⟨g, 0, none⟩)]) (hb2 : Bx w b2 3 #[.int .i64 i]) :
    Calls Try.prog 39 #[.pointer (some ⟨r, i * 3, none⟩), .pointer (some ⟨b0, 0, none⟩), .pointer (some ⟨b1, 0, none⟩), .pointer (some ⟨b2, 0, none⟩)] w fun e w' => e = .returned (.int .i64 0) ∧ TakeTo w base g b0 r c L[i] (L.eraseIdx i) w' := by
  obtain ⟨hx, hg, hbag⟩ := hn
  obtain ⟨r', cur, _, e, hxr, hbr', h1, h2, h3, hla⟩ := hbag.open (by omega)
  obtain rfl : r = r' := by injection e with e; injection e
  clear e
  obtain ⟨k, hk⟩ : ∃ k, L.length = i + 1 + k := ⟨L.length - (i + 1), by omega⟩
  have HLA := Aside0.mk hla
  obtain ⟨vf, c0, c1, c2, hvf⟩ := hla i hi
  have h1c : ∀ (j : Nat) (u : Value), j < (i + 1 + k) * 3 → cur[j]? = some u → u.oneCell' = true := by
    rw [← hk]
    exact one_of_la hla
  obtain ⟨Af, cf, rfl⟩ := hvf.slice
  rw [hk] at hx
  obtain ⟨l, hl⟩ : ∃ l, L[i] = l := ⟨_, rfl⟩
  rw [hl] at c0 c1 c2 hvf ⊢
  clear hl
  rw [← hxr.cell] at c0 c1 c2
  have HCB := Aside0.mk hcb
  obtain ⟨x0, x1, x2, rfl⟩ := hcb
  have hlt := hx.lt
  have hltr := hxr.lt
  have hltb := hxb.lt
  have hlt1 := hb1.lt
  have hlt2 := hb2.lt
  have n1 := hb1.ne hxr (by decide)
  have n2 := hb2.ne hxr (by decide)
  have n3 := hb1.ne hxb (by decide)
  have n4 := hb2.ne hxb (by decide)
  have n5 := hx.ne hxb (by decide)
  have n6 := hx.ne hxr (by decide)
  have d0 := hxb.cell 0
  have d1 := hxb.cell 1
  have d2 := hxb.cell 2
  have e0 := hxb.fz 0
  have e1 := hxb.fz 1
  have e2 := hxb.fz 2
  obtain ⟨w2, hw2⟩ : ∃ w2, w2 = ((w.setCell ⟨b0, 0, none⟩ (.int .u64 (l.who : Int))).setCell ⟨b0, 1, none⟩ (.slice Af l.fr.length cf)).setCell ⟨b0, 2, none⟩ (.bool l.sp) := ⟨_, rfl⟩
  have m2 : ∀ q, q ≠ b0 → w2.heap[q]? = w.heap[q]? := fun q hq => by
    rw [hw2, Below.heap_setCell _ _ _ _ hq, Below.heap_setCell _ _ _ _ hq, Below.heap_setCell _ _ _ _ hq]
  have hx2 : Bx w2 g 28 #[.slice (some ⟨r, 0, none⟩) (i + 1 + k) c] := (m2 g n5).trans hx
  have hxr2 : Bx w2 r 36 cur := (m2 r hbr.symm).trans hxr
  have hb12 : Bx w2 b1 25 #[.pointer (some ⟨g, 0, none⟩)] := (m2 b1 n3).trans hb1
  have hb22 : Bx w2 b2 3 #[.int .i64 i] := (m2 b2 n4).trans hb2
  have q1 := hb12.cell 0
  have q2 := hb22.cell 0
  have q3 := hx2.cell 0
  have HW2 := Aside0.mk hw2
  have HX2 := Aside0.mk hx2
  have HXR2 := Aside0.mk hxr2
  have HB12 := Aside0.mk hb12
  have HB22 := Aside0.mk hb22
  have HX := Aside0.mk hx
  have HXR := Aside0.mk hxr
  have HXB := Aside0.mk hxb
  have HK := Aside0.mk hk
  have HN1 := Aside0.mk n1
  have HN2 := Aside0.mk n2
  have HN6 := Aside0.mk n6
  have HBR := Aside0.mk hbr
  have HG := Aside0.mk hg
  have HB0 := Aside0.mk hb0
  have HBR' := Aside0.mk hbr'
  have H3 := Aside0.mk h3
  have HO := Aside0.mk hvf
  have H1C := Aside0.mk h1c
  have hwr : IntKind.i64.wrap ((i : Int) + 1) = (i : Int) + 1 := by rw [IntKind.wrap_i64]; unfold maxLen at h2; omega
  have hcn : i + 1 + k ≤ c := by omega
  have H2 := Aside0.mk h2
  clear hw2 hx2 hxr2 hb12 hb22 hx hxr hxb hk n1 n2 n3 n4 n5 n6 hbr hg hb0 hbr' h3 hvf h1c hla hbag hb1 hb2 m2 h1 h2
  go_enter Try.func39, Try.ntmps39
  go_wp2_with fail
  rw [← HW2.out]
  go_region_law (first
      | (go_simp; go_at_call 40; refine (del_h (w := w2.drew) HXR2.out i k hcn H2.out H3.out H1C.out).mono ?_; rintro e w3 ⟨rfl, hx3, hG3⟩
         have hG3' : w2.grownBy w3 (some r) := ⟨hG3.os, hG3.tape, hG3.output, hG3.size, hG3.block⟩
         have hb13 := HB12.out.grown hG3' (fun e => HN1.out (by simpa using e))
         have hg3 := HX2.out.grown hG3' (fun e => HN6.out (by simpa using e))
         have q13 := hb13.cell 0
         have q33 := hg3.cell 0
         have f33 := hg3.fz 0
         have HX3 := Aside0.mk hx3
         have HG3 := Aside0.mk hG3'
         clear hb13 hg3 hx3 hG3 hG3'))
  all_goals go_wp2
  all_goals go_ret
  all_goals exact ⟨rfl, take_fin HX.out HG.out HB0.out HXB.out HCB.out HBR.out HXR.out HBR'.out HK.out hcn H2.out H3.out HLA.out HO.out HW2.out HG3.out HX3.out rfl⟩
end Go.Proofs.Ytgmbleaecfmfiaa.Given
