/- THE CONTRACTS OF net.Net's METHODS, of letters. No condition beyond what each says. -/
import Derived.Test.YtgmbleaecfmfiaaNetMem
import Derived.Deep.RegionLaw
import Derived.Deep.RegionHeld3
namespace Go.Proofs.Ytgmbleaecfmfiaa.Given
open Go.RowKit Go.Proofs.YtgmbleaecfmfiaaW.PrintWords Go.Proofs.YtgmbleaecfmfiaaW.PrintLast Go.Proofs.YtgmbleaecfmfiaaW.PrintMore Go.Proofs.Ytgmbleaecfmfiaa.PS
set_option linter.unusedVariables false
/-- a net (of type t) in block g, its bag v, its letters L -/
def NetAt (t : TypeId) (w : World) (base g : Nat) (v : Value) (L : List Lt) : Prop := Bx w g t #[v] ∧ base ≤ g ∧ Bag w base v L
/-- what an act leaves: the net with these letters; nothing else has changed -/
def NetTo (t : TypeId) (w : World) (base g : Nat) (v : Value) (L : List Lt) (w' : World) : Prop :=
  ∃ v1, NetAt t w' base g v1 L ∧ Below base w w' ∧ KeepBut w w' g v.ownBlock ∧ (v1.ownBlock = v.ownBlock ∨ ∀ k, v1.ownBlock = some k → w.heap.size ≤ k)
theorem info36 : (Try.prog.info? 36).map (fun i => (i.zero, i.size, i.bytes)) = some (some (.agg #[.int .u64 0, .slice none 0 0, .bool false]), 3, 40) := by kernel_rfl
def lensOk (L : List Lt) : Prop := ∀ l, l ∈ L → l.fr.length ≤ 140737488355328
theorem Bx.grown {w w1 : World} {g : Nat} {t : TypeId} {cs : Array Value} {row : Option Nat} (h : Bx w g t cs) (hg : w.grownBy w1 row) (hne : some g ≠ row) : Bx w1 g t cs := (hg.block g h.lt hne).trans h
theorem Bag.ne {w : World} {base g : Nat} {t : TypeId} {cs : Array Value} {v : Value} {L : List Lt} (h : Bag w base v L) (hx : Bx w g t cs) (ht : t ≠ 36) : some g ≠ v.ownBlock := Kd.R_ne h hx ht.symm
theorem let_new {w w1 : World} {base : Nat} {v v1 : Value} {L : List Lt} (l : Lt) (hbag : Bag w base v L) (hbase : base ≤ w.heap.size) (ho : Own w1 w.heap.size v1 l.fr) : dL.M w1 base (fun k => some k ≠ v.ownBlock) l [.int .u64 (l.who : Int), v1, .bool l.sp] := by
  refine M_let.2 ⟨v1, rfl, ?_⟩
  have h := Kd.R_bound ho
  refine Kd.R_mono (Kd.R_lower h hbase) (fun k hk he => ?_)
  have := Kd.R_lt hbag k he.symm
  omega
theorem net_put {t : TypeId} {w w1 w2 : World} {base g : Nat} {v v2 : Value} {L' : List Lt} (hx : Bx w g t #[v]) (hg : base ≤ g) (hne : some g ≠ v.ownBlock) (hb : Below w.heap.size w w1) (hR : Bag w2 base v2 L') (hB2 : Below base w w2) (hG : w1.grownBy w2 v.ownBlock)
    (hAt : v2.ownBlock = v.ownBlock ∨ ∃ b, v2.ownBlock = some b ∧ w1.heap.size ≤ b) (h1 : t ≠ 36) (h2 : t ≠ 5) : NetTo t w base g v L' (w2.setCell ⟨g, 0, none⟩ v2) := by
  have hx1 : Bx w1 g t #[v] := hx.below hb hx.lt
  have hx2 : Bx w2 g t #[v] := hx1.grown hG hne
  refine ⟨v2, ⟨hx2.set 0 v2, hg, ?_⟩, hB2.setCell hg _, ⟨?_, ?_⟩, ?_⟩
  · refine Kd.R_set hR hx2 (fun q hq => ?_) 0 v2
    have hq' : q = 36 ∨ q = 5 := by simpa [dL, dF, Kd.iso, Kd.pair, Kd.slice, Kd.int, Kd.bool, Kd.scalar] using hq
    rcases hq' with rfl | rfl
    · exact h1.symm
    · exact h2.symm
  · have e1 := hb.size
    have e2 := hG.size
    show w.heap.size ≤ (w2.setCell ⟨g, 0, none⟩ v2).heap.size
    simp
    omega
  · intro k hk hkg hkr
    rw [Below.heap_setCell _ _ _ _ hkg, hG.block k (Nat.lt_of_lt_of_le hk hb.size) hkr]
    exact hb.block k hk
  · rcases hAt with h | ⟨b, hb', hle⟩
    · exact .inl h
    · right
      intro k hk
      rw [hb'] at hk
      injection hk with hk
      have := hb.size
      omega
set_option maxRecDepth 100000 in
set_option maxHeartbeats 1000000 in
theorem send_h {w : World} {base g : Nat} {v vf : Value} {L : List Lt} (hn : NetAt 28 w base g v L) (who : Nat) (bs : List UInt8) (hf : Rd w vf bs) (hl : bs.length ≤ 140737488355328) (hL : (L.length + 1) * 40 ≤ 140737488355328) :
    Calls Try.prog 10 #[.pointer (some ⟨g, 0, none⟩), .int .u64 (who : Int), vf] w fun e w' => e = .returned (.int .i64 0) ∧ NetTo 28 w base g v (L ++ [⟨who, bs, false⟩]) w' := by
  obtain ⟨hx, hg, hbag⟩ := hn
  have hlt := hx.lt
  have hbase : base ≤ w.heap.size := by omega
  have hne := hbag.ne hx (by decide)
  obtain ⟨A, c, rfl⟩ := hbag.slice
  have q := hx.cell 0
  have f := hx.fz 0
  have HX := Aside0.mk hx
  have HG := Aside0.mk hg
  have HNE := Aside0.mk hne
  have HBAG := Aside0.mk hbag
  have HF := Aside0.mk hf
  obtain ⟨Af, cf, rfl, _, _⟩ := hf
  have HLL := Aside0.mk hL
  clear hx hg hbag hL hne
  go_enter Try.func10, Try.ntmps10
  go_wp2_with fail
  go_region_law (first
    | (refine Kd.R_append_step dL (w0 := w) base (by simp [Region.wanted]) (.tmp 13) (.tmp 18) 26 36 (.agg #[.int .u64 0, .slice none 0 0, .bool false]) 40 rfl Try.underlying26 info36 rfl (by decide) (by decide) (.slice A L.length c) L ⟨who, bs, false⟩ [.int .u64 (who : Int), .slice A1 bs.length c1, .bool false] (fun _ => True) (fun k => some k ≠ (Value.slice A L.length c).ownBlock) rfl rfl HM.out (fun _ h => ⟨trivial, h⟩) (fun _ _ => trivial) (HBAG.out.below HB1.out) (HB1.out.mono hbase) (by have := HB1.out.size; omega) HLL.out ?_
       intro v2 w2 hR2 hB2 hG2 hAt2
       obtain ⟨A2, c2, e2⟩ := Kd.R_slice hR2
       rw [show (L ++ [(⟨who, bs, false⟩ : Lt)]).length = L.length + 1 by simp] at e2
       subst e2
       have hx2 := (HX.out.below HB1.out hlt).grown hG2 HNE.out
       have q2 := hx2.cell 0
       have f2 := hx2.fz 0
       have hlt2 := hx2.lt
       have HE := Aside0.mk (net_put HX.out HG.out HNE.out HB1.out hR2 hB2 hG2 hAt2 (by decide) (by decide))
       clear hx2 hR2 hB2 hG2 hAt2)
    | (go_simp; go_at_call 29; refine (letOwn_h ⟨who, bs, false⟩ (HF.out.below (Below.refl _ _).drew) hl).mono ?_; rintro e w1 ⟨v1, rfl, ho1, hb1⟩
       obtain ⟨A1, c1, rfl⟩ := ho1.slice
       have HB1 : Aside0 (Below w.heap.size w w1) := ⟨(Below.refl _ _).drew.trans hb1⟩
       have HM := Aside0.mk (let_new (v1 := .slice A1 bs.length c1) ⟨who, bs, false⟩ HBAG.out hbase ho1)
       have q1 := (HX.out.below HB1.out hlt).cell 0
       have hlt1 : g < w1.heap.size := Nat.lt_of_lt_of_le hlt HB1.out.size
       clear ho1 hb1))
  all_goals go_wp2
  all_goals go_ret
  all_goals exact ⟨rfl, HE.out⟩
end Go.Proofs.Ytgmbleaecfmfiaa.Given
