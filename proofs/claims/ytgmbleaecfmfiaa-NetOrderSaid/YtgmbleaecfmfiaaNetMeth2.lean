/- THE CONTRACTS OF net.Net's METHODS Take, Drop, of letters. No condition beyond what each says. -/
import Derived.Test.YtgmbleaecfmfiaaNetMeth
import Derived.Test.YtgmbleaecfmfiaaNetTake
namespace Go.Proofs.Ytgmbleaecfmfiaa.Given
open Go.RowKit Go.Shelf Go.Proofs.YtgmbleaecfmfiaaW.PrintWords Go.Proofs.YtgmbleaecfmfiaaW.PrintLast Go.Proofs.YtgmbleaecfmfiaaW.PrintMore Go.Proofs.Ytgmbleaecfmfiaa.PS
set_option linter.unusedVariables false
theorem enT : ∀ args w, (callFunc 39 args).run Try.prog w = .ok (.enter 39 args) w := enters_of Try.func39 (by kernel_rfl) rfl
theorem box3 {w W : World} {c1 c2 c3 : Array Value} {t1 t2 t3 : TypeId} (hW : ((w.alloc (.cells c1 t1)).alloc (.cells c2 t2)).alloc (.cells c3 t3) = W) : Bx W w.heap.size t1 c1 ∧ Bx W (w.heap.size + 1) t2 c2 ∧ Bx W (w.heap.size + 2) t3 c3 ∧ Below w.heap.size w W ∧ W.heap.size = w.heap.size + 3 := by
  obtain ⟨h1, h2, hb, hs⟩ := box2 (w := w) (c1 := c1) (c2 := c2) (t1 := t1) (t2 := t2) rfl
  subst hW
  have h3 := Bx.new ((w.alloc (.cells c1 t1)).alloc (.cells c2 t2)) t3 c3
  rw [hs] at h3
  exact ⟨h1.alloc _, h2.alloc _, h3, hb.alloc (by omega) _, by simp⟩
theorem Bag.step {w w1 : World} {base : Nat} {v : Value} {L : List Lt} (h : Bag w base v L) (h5 : ∀ k cells, Bx w k 5 cells → w1.heap[k]? = w.heap[k]?) (hr : ∀ k, v.ownBlock = some k → w1.heap[k]? = w.heap[k]?) : Bag w1 base v L := by
  obtain ⟨A, c, rfl⟩ := h.slice
  rcases Nat.eq_zero_or_pos L.length with h0 | hp
  · have : L = [] := List.eq_nil_of_length_eq_zero h0
    subst this
    obtain ⟨_, inner, ho, hrp⟩ := h
    exact ⟨fun _ _ => trivial, inner, own_move ho hr, ⟨hrp.1, fun j p hj => by simp at hj⟩⟩
  · obtain ⟨r, cur, _, rfl, hxr, hb, h1, h2, h3, hl⟩ := h.open hp
    have hxr1 : Bx w1 r 36 cur := (hr r rfl).trans hxr
    exact Bag.mk hxr1 hb h1 h2 h3 (fun i hi => (hl i hi).keep h5)
/-- new memory behind an act -/
theorem netTo_post {t : TypeId} {w w1 w2 : World} {base g : Nat} {v : Value} {L : List Lt} (h : NetTo t w base g v L w1) (hb : Below w1.heap.size w1 w2) : NetTo t w base g v L w2 := by
  obtain ⟨v1, hn, hB, hk, hat⟩ := h
  refine ⟨v1, hn.below hb, hB.trans (hb.mono hn.base), ⟨Nat.le_trans hk.1 hb.size, fun k hk1 h1 h2 => ?_⟩, hat⟩
  rw [hb.block k (Nat.lt_of_lt_of_le hk1 hk.1)]
  exact hk.2 k hk1 h1 h2
/-- what Take leaves, and answers -/
def takeL (L : List Lt) (i : Int) : List Lt × Lt × Int := if inB L i then (L.eraseIdx i.toNat, L.getD i.toNat ⟨0, [], false⟩, 0) else (L, ⟨0, [], false⟩, 17)
def TakeAns (w : World) (base g : Nat) (v : Value) (x : List Lt × Lt × Int) (e : Ending) (w' : World) : Prop := ∃ vf, e = .returned (.tuple #[.agg #[.int .u64 (x.2.1.who : Int), vf, .bool x.2.1.sp], .int .i64 x.2.2]) ∧ Own w' base vf x.2.1.fr ∧ NetTo 28 w base g v x.1 w'
set_option maxRecDepth 100000 in
set_option maxHeartbeats 1000000 in
theorem take_h {w : World} {base g : Nat} {v : Value} {L : List Lt} (hn : NetAt 28 w base g v L) (i : Int) :
    Calls Try.prog 23 #[.pointer (some ⟨g, 0, none⟩), .int .i64 i] w (TakeAns w base g v (takeL L i)) := by
  have HN := Aside0.mk hn
  have hbs := hn.base
  by_cases hi : inB L i
  · have hD : takeL L i = (L.eraseIdx i.toNat, L.getD i.toNat ⟨0, [], false⟩, 0) := if_pos hi
    obtain ⟨n, rfl, hn1, hg⟩ := inB_nat hi
    rw [hg, show ((n : Nat) : Int).toNat = n from rfl] at hD
    obtain ⟨r, c, rfl⟩ := bag_block hn.2.2 (by omega)
    rw [hD]
    obtain ⟨l, hl2⟩ : ∃ l, L[n] = l := ⟨_, rfl⟩
    rw [hl2]
    have HL2 := Aside0.mk hl2
    clear hn hi hD hg hl2
    go_enter Try.func23, Try.ntmps23
    go_wp2_with fail
    generalize hW : World.alloc _ _ = W
    obtain ⟨hb1, hb2, hb0, hB, hs⟩ := box3 hW
    clear hW
    have hn2 := HN.out.below hB
    have HB := Aside0.mk hB
    have HS := Aside0.mk hs
    obtain ⟨r', cur, _, e, hxr, _, _, _, _, _⟩ := HN.out.2.2.open (by omega)
    obtain rfl : r = r' := by injection e with e; injection e
    have HXR := Aside0.mk hxr
    have hltr := hxr.lt
    clear e hxr
    refine (ask_in (Q := fun k w' => k = 0 ∧ TakeTo W base g (w.heap.size + 2) r c l (L.eraseIdx n) w') hn2.1 n hn1 39 #[.pointer (some ⟨w.heap.size + 2, 0, none⟩), .pointer (some ⟨w.heap.size, 0, none⟩), .pointer (some ⟨w.heap.size + 1, 0, none⟩)] enT ((take1_h hn2 hn1 (by omega) hb0 ⟨_, _, _, rfl⟩ (by omega) hb1 hb2).mono ?_)).mono ?_
    · rintro e w' ⟨rfl, h⟩
      rw [HL2.out] at h
      exact ⟨0, rfl, rfl, h⟩
    · rintro e w1 ⟨k, rfl, rfl, vf, hx1, ho1, hn3, hb3, hk3⟩
      obtain ⟨A1, c1, rfl⟩ := ho1.slice
      have q0 := hx1.cell 0
      have q1 := hx1.cell 1
      have q2 := hx1.cell 2
      have f0 := hx1.fz 0
      have f1 := hx1.fz 1
      have f2 := hx1.fz 2
      have HX1 := Aside0.mk hx1
      have HO1 := Aside0.mk ho1
      have HN3 := Aside0.mk hn3
      have HB3 := Aside0.mk hb3
      have HK3 := Aside0.mk hk3
      clear hx1 ho1 hn3 hb3 hk3 hn2 hb0 hb1 hb2 hs hB
      go_wp2
      generalize hW2 : World.setCell _ _ _ = W2
      have hx2 : Bx W2 (w.heap.size + 2) 36 #[.int .u64 (l.who : Int), .slice A1 l.fr.length c1, .bool l.sp] := by
        rw [← hW2]
        exact ((HX1.out.set 0 _).set 1 _).set 2 _
      have m2 : ∀ q, q ≠ w.heap.size + 2 → W2.heap[q]? = w1.heap[q]? := fun q hq => by
        rw [← hW2, Below.heap_setCell _ _ _ _ hq, Below.heap_setCell _ _ _ _ hq, Below.heap_setCell _ _ _ _ hq]
      have ho2 : Own W2 base (.slice A1 l.fr.length c1) l.fr := HO1.out.step fun k cells hc => m2 k (hc.ne HX1.out (by decide))
      have hb2 : Below base w W2 := by
        rw [← hW2]
        refine Below.setCell (Below.setCell (Below.setCell ((HB.out.mono hbs).trans HB3.out) ?_ _) ?_ _) ?_ _
        all_goals (show base ≤ w.heap.size + 2; omega)
      have hrb : r ≠ w.heap.size + 2 := by omega
      have hn4 : NetAt 28 W2 base g (.slice (some ⟨r, 0, none⟩) (L.eraseIdx n).length c) (L.eraseIdx n) := by
        refine ⟨(m2 g (HN3.out.1.ne HX1.out (by decide))).trans HN3.out.1, HN3.out.2.1, ?_⟩
        refine HN3.out.2.2.step (fun k cells hc => m2 k (hc.ne HX1.out (by decide))) (fun k hk => m2 k ?_)
        have : r = k := by simpa [Value.ownBlock] using hk
        omega
      have hk2 : KeepBut w W2 g (some r) := by
        refine ⟨?_, fun k hk h1 h2 => ?_⟩
        · have e1 := HB.out.size
          have e2 := HB3.out.size
          rw [← hW2]
          simp
          omega
        · rw [m2 k (by omega), HK3.out k (by have := HB.out.size; omega) h1 (by omega) (fun e => h2 (by rw [e]))]
          exact HB.out.block k hk
      have q0 := hx2.cell 0
      have q1 := hx2.cell 1
      have q2 := hx2.cell 2
      exact bodyPost_ret (v := .tuple #[.agg #[.int .u64 (l.who : Int), .slice A1 l.fr.length c1, .bool l.sp], .int .i64 0]) (by simp [results, Try.results23, go_sem, q0, q1, q2]) rfl ⟨_, rfl, ho2, _, hn4, hb2, hk2, .inl rfl⟩
  · have hD : takeL L i = (L, ⟨0, [], false⟩, 17) := if_neg hi
    rw [hD]
    obtain ⟨A, c, rfl⟩ := hn.2.2.slice
    have hio : i < 0 ∨ (L.length : Int) ≤ i := by unfold inB at hi; omega
    clear hn hi hD
    go_enter Try.func23, Try.ntmps23
    go_wp2_with fail
    generalize hW : World.alloc _ _ = W
    obtain ⟨hb1, hb2, hb0, hB, hs⟩ := box3 hW
    clear hW
    refine (ask_out (HN.out.below hB).1 i _ hio).mono ?_
    rintro e w1 ⟨rfl, rfl⟩
    have q0 := hb0.cell 0
    have q1 := hb0.cell 1
    have q2 := hb0.cell 2
    have f0 := hb0.fz 0
    have f1 := hb0.fz 1
    have f2 := hb0.fz 2
    have HX0 := Aside0.mk hb0
    have HB := Aside0.mk hB
    have HS := Aside0.mk hs
    clear hb0 hb1 hb2 hB hs
    go_wp2
    generalize hW2 : World.setCell _ _ _ = W2
    have hx2 : Bx W2 (w.heap.size + 2) 36 #[.int .u64 0, .slice none 0 0, .bool false] := by
      rw [← hW2]
      exact ((HX0.out.set 0 _).set 1 _).set 2 _
    have hb2 : Below w.heap.size w W2 := by
      rw [← hW2]
      exact ((HB.out.setCell (p := ⟨w.heap.size + 2, 0, none⟩) (by simp) _).setCell (p := ⟨w.heap.size + 2, 1, none⟩) (by simp) _).setCell (p := ⟨w.heap.size + 2, 2, none⟩) (by simp) _
    have q0 := hx2.cell 0
    have q1 := hx2.cell 1
    have q2 := hx2.cell 2
    exact bodyPost_ret (v := .tuple #[.agg #[.int .u64 0, .slice none 0 0, .bool false], .int .i64 17]) (by simp [results, Try.results23, go_sem, q0, q1, q2]) rfl ⟨_, rfl, Own.nil _ _, net_same HN.out.1 HN.out.2.1 HN.out.base hb2 HN.out.2.2⟩
set_option maxRecDepth 100000 in
set_option maxHeartbeats 1000000 in
theorem drop_h {w : World} {base g : Nat} {v : Value} {L : List Lt} (hn : NetAt 28 w base g v L) (i : Int) :
    Calls Try.prog 11 #[.pointer (some ⟨g, 0, none⟩), .int .i64 i] w (NetAns 28 w base g v ((takeL L i).1, (takeL L i).2.2)) := by
  have CT := Aside0.mk (take_h hn i)
  have hbs := hn.base
  have HX := Aside0.mk hn.1
  have HBG := Aside0.mk hn.2.2
  clear hn
  generalize takeL L i = x at *
  obtain ⟨L2, l, er⟩ := x
  go_enter Try.func11, Try.ntmps11
  go_wp2_with fail
  refine CT.out.mono ?_
  rintro e w1 ⟨vf, rfl, ho, hq⟩
  obtain ⟨A1, c1, rfl⟩ := ho.slice
  have HQ := Aside0.mk hq
  clear ho hq
  go_wp2
  go_ret
  refine ⟨rfl, ?_⟩
  refine netTo_post HQ.out ?_
  exact (Below.refl _ _).alloc (Nat.le_refl _) _
end Go.Proofs.Ytgmbleaecfmfiaa.Given
