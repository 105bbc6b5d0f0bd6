/- THE CONTRACTS OF net.Net's METHODS Double, At, Spoil, Len, of letters. No condition beyond what each says. -/
import Derived.Test.YtgmbleaecfmfiaaNetActs
import Derived.Test.YtgmbleaecfmfiaaNetSpoil
namespace Go.Proofs.Ytgmbleaecfmfiaa.Given
open Go.RowKit Go.Shelf Go.Proofs.YtgmbleaecfmfiaaW.PrintWords Go.Proofs.YtgmbleaecfmfiaaW.PrintLast Go.Proofs.YtgmbleaecfmfiaaW.PrintMore Go.Proofs.Ytgmbleaecfmfiaa.PS
set_option linter.unusedVariables false
theorem enD : ∀ args w, (callFunc 31 args).run Try.prog w = .ok (.enter 31 args) w := enters_of Try.func31 (by kernel_rfl) rfl
theorem enA : ∀ args w, (callFunc 32 args).run Try.prog w = .ok (.enter 32 args) w := enters_of Try.func32 (by kernel_rfl) rfl
theorem enS : ∀ args w, (callFunc 33 args).run Try.prog w = .ok (.enter 33 args) w := enters_of Try.func33 (by kernel_rfl) rfl
theorem NetAt.below {t : TypeId} {w w1 : World} {base g : Nat} {v : Value} {L : List Lt} (h : NetAt t w base g v L) (hb : Below w.heap.size w w1) : NetAt t w1 base g v L := ⟨h.1.below hb h.1.lt, h.2.1, h.2.2.below hb⟩
/-- new memory ahead of an act -/
theorem netTo_pre {t : TypeId} {w w1 w2 : World} {base g : Nat} {v : Value} {L : List Lt} (hbase : base ≤ w.heap.size) (hb : Below w.heap.size w w1) (h : NetTo t w1 base g v L w2) : NetTo t w base g v L w2 := by
  obtain ⟨v1, hn, hB, hk, hat⟩ := h
  refine ⟨v1, hn, (hb.mono hbase).trans hB, ⟨Nat.le_trans hb.size hk.1, fun k hk1 h1 h2 => ?_⟩, ?_⟩
  · rw [hk.2 k (Nat.lt_of_lt_of_le hk1 hb.size) h1 h2]
    exact hb.block k hk1
  · rcases hat with h | h
    · exact .inl h
    · exact .inr fun k hk' => Nat.le_trans hb.size (h k hk')
theorem NetAt.base {t : TypeId} {w : World} {base g : Nat} {v : Value} {L : List Lt} (h : NetAt t w base g v L) : base ≤ w.heap.size := by
  have := h.1.lt
  have := h.2.1
  omega
def inB (L : List Lt) (i : Int) : Prop := 0 ≤ i ∧ i < L.length
instance (L : List Lt) (i : Int) : Decidable (inB L i) := inferInstanceAs (Decidable (_ ∧ _))
/-- what Double leaves, and answers -/
def doubleL (L : List Lt) (i : Int) : List Lt × Int := if inB L i then (L ++ [L.getD i.toNat ⟨0, [], false⟩], 0) else (L, 17)
theorem inB_nat {L : List Lt} {i : Int} (h : inB L i) : ∃ n : Nat, i = n ∧ ∃ hn : n < L.length, L.getD i.toNat ⟨0, [], false⟩ = L[n] := by
  obtain ⟨n, rfl⟩ := Int.eq_ofNat_of_zero_le h.1
  have hn : n < L.length := by have := h.2; omega
  exact ⟨n, rfl, hn, by simp [List.getD, hn]⟩
theorem lens_at {L : List Lt} (h : lensOk L) (i : Nat) (hi : i < L.length) : L[i].fr.length ≤ 140737488355328 := h _ (List.getElem_mem hi)
theorem bag_block {w : World} {base : Nat} {v : Value} {L : List Lt} (h : Bag w base v L) (hp : 0 < L.length) : ∃ r c, v = .slice (some ⟨r, 0, none⟩) L.length c := by
  obtain ⟨A, c, rfl⟩ := h.slice
  obtain ⟨r, _, _, rfl, _⟩ := h.open hp
  exact ⟨r, c, rfl⟩
def NetAns (t : TypeId) (w : World) (base g : Nat) (v : Value) (x : List Lt × Int) (e : Ending) (w' : World) : Prop := e = .returned (.int .i64 x.2) ∧ NetTo t w base g v x.1 w'
set_option maxRecDepth 100000 in
set_option maxHeartbeats 1000000 in
theorem double_h {w : World} {base g : Nat} {v : Value} {L : List Lt} (hn : NetAt 28 w base g v L) (i : Int) (hl : lensOk L) (hL : (L.length + 1) * 40 ≤ 140737488355328) :
    Calls Try.prog 14 #[.pointer (some ⟨g, 0, none⟩), .int .i64 i] w (NetAns 28 w base g v (doubleL L i)) := by
  have HN := Aside0.mk hn
  by_cases hi : inB L i
  · have hD : doubleL L i = (L ++ [L.getD i.toNat ⟨0, [], false⟩], 0) := if_pos hi
    obtain ⟨n, rfl, hn1, hg⟩ := inB_nat hi
    rw [hg] at hD
    obtain ⟨r, c, rfl⟩ := bag_block hn.2.2 (by omega)
    rw [hD]
    have HLn := Aside0.mk (lens_at hl n hn1)
    have HLL := Aside0.mk hL
    clear hn hi hD hg hl hL
    go_enter Try.func14, Try.ntmps14
    go_wp2_with fail
    generalize hW : World.alloc _ _ = W
    obtain ⟨hb, hB, hs⟩ := box1 hW
    clear hW
    have hn2 := HN.out.below hB
    have HB := Aside0.mk hB
    refine (ask_in (Q := fun k w' => k = 0 ∧ NetTo 28 w base g (.slice (some ⟨r, 0, none⟩) L.length c) (L ++ [L[n]]) w') hn2.1 n hn1 31 #[.pointer (some ⟨w.heap.size, 0, none⟩)] enD ((double1_h hn2 hb n hn1 r rfl HLn.out HLL.out).mono ?_)).mono ?_
    · rintro e w' ⟨rfl, h⟩
      exact ⟨0, rfl, rfl, netTo_pre HN.out.base HB.out h⟩
    · rintro e w1 ⟨k, rfl, rfl, hq⟩
      have HQ := Aside0.mk hq
      clear hq hn2 hb hs hB
      go_wp2
      go_ret
      exact ⟨rfl, HQ.out⟩
  · have hD : doubleL L i = (L, 17) := if_neg hi
    rw [hD]
    obtain ⟨A, c, rfl⟩ := hn.2.2.slice
    have hio : i < 0 ∨ (L.length : Int) ≤ i := by unfold inB at hi; omega
    clear hn hi hD hl hL
    go_enter Try.func14, Try.ntmps14
    go_wp2_with fail
    generalize hW : World.alloc _ _ = W
    obtain ⟨hb, hB, hs⟩ := box1 hW
    clear hW
    have HB := Aside0.mk hB
    refine (ask_out (HN.out.below hB).1 i _ hio).mono ?_
    rintro e w1 ⟨rfl, rfl⟩
    clear hb hB hs
    go_wp2
    go_ret
    exact ⟨rfl, net_same HN.out.1 HN.out.2.1 HN.out.base HB.out HN.out.2.2⟩
/-- what At answers -/
def atL (L : List Lt) (i : Int) : Lt × Int := if inB L i then (L.getD i.toNat ⟨0, [], false⟩, 0) else (⟨0, [], false⟩, 17)
def AtTo (w : World) (r : Lt × Int) (e : Ending) (w' : World) : Prop := ∃ v', e = .returned (.tuple #[.agg #[.int .u64 (r.1.who : Int), v', .bool r.1.sp], .int .i64 r.2]) ∧ Own w' w.heap.size v' r.1.fr ∧ Below w.heap.size w w'
set_option maxRecDepth 100000 in
set_option maxHeartbeats 1000000 in
theorem at_in {w : World} {base g : Nat} {v : Value} {L : List Lt} (hn : NetAt 28 w base g v L) (n : Nat) (hn1 : n < L.length) (hl : lensOk L) :
    Calls Try.prog 15 #[.pointer (some ⟨g, 0, none⟩), .int .i64 n] w (AtTo w (L[n], 0)) := by
  have HN := Aside0.mk hn
  obtain ⟨r, c, rfl⟩ := bag_block hn.2.2 (by omega)
  have hln := lens_at hl n hn1
  obtain ⟨l, hl2⟩ : ∃ l, L[n] = l := ⟨_, rfl⟩
  rw [hl2] at hln ⊢
  have HLn := Aside0.mk hln
  have HL2 := Aside0.mk hl2
  clear hn hl hl2 hln
  go_enter Try.func15, Try.ntmps15
  go_wp2_with fail
  generalize hW : World.alloc _ _ = W
  obtain ⟨hb, hB, hs⟩ := box1 hW
  clear hW
  have hn2 := HN.out.below hB
  have HB := Aside0.mk hB
  have HS := Aside0.mk hs
  obtain ⟨r', cur, _, e, hxr, hbr, h1, h2, h3, hla⟩ := hn2.2.2.open (by omega)
  obtain rfl : r = r' := by injection e with e; injection e
  clear e
  refine (ask_in (Q := fun k w' => k = 0 ∧ ∃ v', Bx w' w.heap.size 36 #[.int .u64 (l.who : Int), v', .bool l.sp] ∧ Own w' W.heap.size v' l.fr ∧ Below w.heap.size W w') hn2.1 n hn1 32 #[.pointer (some ⟨w.heap.size, 0, none⟩)] enA ((at1_h hxr (HL2.out ▸ hla n hn1) hb ⟨_, _, _, rfl⟩ HLn.out).mono ?_)).mono ?_
  · rintro e w' ⟨rfl, h⟩
    exact ⟨0, rfl, rfl, h⟩
  · rintro e w1 ⟨k, rfl, rfl, v1, hx1, ho1, hb1⟩
    obtain ⟨A1, c1, rfl⟩ := ho1.slice
    have q0 := hx1.cell 0
    have q1 := hx1.cell 1
    have q2 := hx1.cell 2
    have f0 := hx1.fz 0
    have f1 := hx1.fz 1
    have f2 := hx1.fz 2
    have HX1 := Aside0.mk hx1
    have HO1 := Aside0.mk ho1
    have HB1 := Aside0.mk hb1
    clear hx1 ho1 hb1 hn2 hb hs hB hxr hbr h1 h2 h3 hla
    go_wp2
    generalize hW2 : World.setCell _ _ _ = W2
    have hx2 : Bx W2 w.heap.size 36 #[.int .u64 (l.who : Int), .slice A1 l.fr.length c1, .bool l.sp] := by
      rw [← hW2]
      exact ((HX1.out.set 0 _).set 1 _).set 2 _
    have ho2 : Own W2 W.heap.size (.slice A1 l.fr.length c1) l.fr := by
      rw [← hW2]
      exact ((HO1.out.fart HX1.out (by decide) 0 _).fart (HX1.out.set 0 _) (by decide) 1 _).fart ((HX1.out.set 0 _).set 1 _) (by decide) 2 _
    have hb2 : Below w.heap.size w W2 := by
      rw [← hW2]
      exact (((HB.out.trans HB1.out).setCell (p := ⟨w.heap.size, 0, none⟩) (Nat.le_refl _) _).setCell (p := ⟨w.heap.size, 1, none⟩) (Nat.le_refl _) _).setCell (p := ⟨w.heap.size, 2, none⟩) (Nat.le_refl _) _
    have q0 := hx2.cell 0
    have q1 := hx2.cell 1
    have q2 := hx2.cell 2
    have ho3 := Own.lower (base := W.heap.size) (base1 := w.heap.size) ho2 (by have := HS.out; omega)
    exact bodyPost_ret (v := .tuple #[.agg #[.int .u64 (l.who : Int), .slice A1 l.fr.length c1, .bool l.sp], .int .i64 0]) (by simp [results, Try.results15, go_sem, q0, q1, q2]) rfl ⟨_, rfl, ho3, hb2⟩
set_option maxRecDepth 100000 in
set_option maxHeartbeats 1000000 in
theorem at_out {w : World} {g n c : Nat} {A : Option Addr} (hx : Bx w g 28 #[.slice A n c]) (i : Int) (hi : i < 0 ∨ (n : Int) ≤ i) :
    Calls Try.prog 15 #[.pointer (some ⟨g, 0, none⟩), .int .i64 i] w (AtTo w (⟨0, [], false⟩, 17)) := by
  have HX := Aside0.mk hx
  clear hx
  go_enter Try.func15, Try.ntmps15
  go_wp2_with fail
  generalize hW : World.alloc _ _ = W
  obtain ⟨hb, hB, hs⟩ := box1 hW
  clear hW
  refine (ask_out (HX.out.below hB HX.out.lt) i _ hi).mono ?_
  rintro e w1 ⟨rfl, rfl⟩
  have q0 := hb.cell 0
  have q1 := hb.cell 1
  have q2 := hb.cell 2
  have f0 := hb.fz 0
  have f1 := hb.fz 1
  have f2 := hb.fz 2
  have HXB := Aside0.mk hb
  have HB := Aside0.mk hB
  clear hb hB hs
  go_wp2
  generalize hW2 : World.setCell _ _ _ = W2
  have hx2 : Bx W2 w.heap.size 36 #[.int .u64 0, .slice none 0 0, .bool false] := by
    rw [← hW2]
    exact ((HXB.out.set 0 _).set 1 _).set 2 _
  have hb2 : Below w.heap.size w W2 := by
    rw [← hW2]
    exact ((HB.out.setCell (p := ⟨w.heap.size, 0, none⟩) (Nat.le_refl _) _).setCell (p := ⟨w.heap.size, 1, none⟩) (Nat.le_refl _) _).setCell (p := ⟨w.heap.size, 2, none⟩) (Nat.le_refl _) _
  have q0 := hx2.cell 0
  have q1 := hx2.cell 1
  have q2 := hx2.cell 2
  exact bodyPost_ret (v := .tuple #[.agg #[.int .u64 0, .slice none 0 0, .bool false], .int .i64 17]) (by simp [results, Try.results15, go_sem, q0, q1, q2]) rfl ⟨_, rfl, Own.nil _ _, hb2⟩
theorem at_h {w : World} {base g : Nat} {v : Value} {L : List Lt} (hn : NetAt 28 w base g v L) (i : Int) (hl : lensOk L) :
    Calls Try.prog 15 #[.pointer (some ⟨g, 0, none⟩), .int .i64 i] w (AtTo w (atL L i)) := by
  by_cases hi : inB L i
  · have hD : atL L i = (L.getD i.toNat ⟨0, [], false⟩, 0) := if_pos hi
    obtain ⟨n, rfl, hn1, hg⟩ := inB_nat hi
    rw [hD, hg]
    exact at_in hn n hn1 hl
  · have hD : atL L i = (⟨0, [], false⟩, 17) := if_neg hi
    rw [hD]
    obtain ⟨A, c, rfl⟩ := hn.2.2.slice
    exact at_out hn.1 i (by unfold inB at hi; omega)
/-- what Spoil leaves, and answers -/
def spoilN (L : List Lt) (i at_ : Int) (m : UInt8) : List Lt × Int := if inB L i then (L.set i.toNat (spoilL (L.getD i.toNat ⟨0, [], false⟩) at_ m).1, (spoilL (L.getD i.toNat ⟨0, [], false⟩) at_ m).2) else (L, 17)
set_option maxRecDepth 100000 in
set_option maxHeartbeats 1000000 in
theorem spoilM_h {w : World} {base g : Nat} {v : Value} {L : List Lt} (hn : NetAt 28 w base g v L) (i at_ : Int) (hat : -9223372036854775808 ≤ at_ ∧ at_ ≤ 9223372036854775807) (m : UInt8) (hl : ∀ l, l ∈ L → l.fr.length < 140737488355328) :
    Calls Try.prog 16 #[.pointer (some ⟨g, 0, none⟩), .int .i64 i, .int .i64 at_, .int .u8 (m.toNat : Int)] w (NetAns 28 w base g v (spoilN L i at_ m)) := by
  have HN := Aside0.mk hn
  have HAT := Aside0.mk hat
  by_cases hi : inB L i
  · have hD : spoilN L i at_ m = (L.set i.toNat (spoilL (L.getD i.toNat ⟨0, [], false⟩) at_ m).1, (spoilL (L.getD i.toNat ⟨0, [], false⟩) at_ m).2) := if_pos hi
    obtain ⟨n, rfl, hn1, hg⟩ := inB_nat hi
    rw [hg, show ((n : Nat) : Int).toNat = n from rfl] at hD
    obtain ⟨r, c, rfl⟩ := bag_block hn.2.2 (by omega)
    rw [hD]
    have HLn := Aside0.mk (hl _ (List.getElem_mem hn1))
    clear hn hi hD hg hl hat
    go_enter Try.func16, Try.ntmps16
    go_wp2_with fail
    generalize hW : World.alloc _ _ = W
    obtain ⟨hb1, hb2, hB, hs⟩ := box2 hW
    clear hW
    have hn2 := HN.out.below hB
    have HB := Aside0.mk hB
    refine (ask_in (Q := fun k w' => k = (spoilL L[n] at_ m).2 ∧ NetTo 28 w base g (.slice (some ⟨r, 0, none⟩) L.length c) (L.set n (spoilL L[n] at_ m).1) w') hn2.1 n hn1 33 #[.pointer (some ⟨w.heap.size, 0, none⟩), .pointer (some ⟨w.heap.size + 1, 0, none⟩)] enS ((spoil1_h hn2 at_ HAT.out m hb1 hb2 n hn1 r rfl HLn.out).mono ?_)).mono ?_
    · rintro e w' ⟨rfl, h⟩
      exact ⟨_, rfl, rfl, netTo_pre HN.out.base HB.out h⟩
    · rintro e w1 ⟨k, rfl, rfl, hq⟩
      have HQ := Aside0.mk hq
      clear hq hn2 hb1 hb2 hs hB
      go_wp2
      go_ret
      exact ⟨rfl, HQ.out⟩
  · have hD : spoilN L i at_ m = (L, 17) := if_neg hi
    rw [hD]
    obtain ⟨A, c, rfl⟩ := hn.2.2.slice
    have hio : i < 0 ∨ (L.length : Int) ≤ i := by unfold inB at hi; omega
    clear hn hi hD hl hat
    go_enter Try.func16, Try.ntmps16
    go_wp2_with fail
    generalize hW : World.alloc _ _ = W
    obtain ⟨hb1, hb2, hB, hs⟩ := box2 hW
    clear hW
    have HB := Aside0.mk hB
    refine (ask_out (HN.out.below hB).1 i _ hio).mono ?_
    rintro e w1 ⟨rfl, rfl⟩
    clear hb1 hb2 hB hs
    go_wp2
    go_ret
    exact ⟨rfl, net_same HN.out.1 HN.out.2.1 HN.out.base HB.out HN.out.2.2⟩
end Go.Proofs.Ytgmbleaecfmfiaa.Given
