/- THE CONTRACTS OF commonplaceref28.Net's METHODS Is, Send, AND OF Same. No condition beyond what each says. -/
import Derived.Test.YtgmbleaecfmfiaaNetMeth3
namespace Go.Proofs.Ytgmbleaecfmfiaa.Given
open Go.RowKit Go.Shelf Go.Proofs.YtgmbleaecfmfiaaW.PrintWords Go.Proofs.YtgmbleaecfmfiaaW.PrintLast Go.Proofs.YtgmbleaecfmfiaaW.PrintMore Go.Proofs.Ytgmbleaecfmfiaa.PS
set_option linter.unusedVariables false
set_option maxRecDepth 100000 in
theorem is_h {w : World} {g : Nat} {A : Option Addr} {c : Nat} (L : List Lt) (hx : Bx w g 46 #[.slice A L.length c]) (i : Int) :
    Calls Try.prog 35 #[.pointer (some ⟨g, 0, none⟩), .int .i64 i] w fun e w' => e = .returned (.bool (decide (inB L i))) ∧ w' = w := by
  have q := hx.cell 0
  have hlt := hx.lt
  clear hx
  by_cases h0 : 0 ≤ i
  · by_cases h1 : i < L.length
    · rw [decide_eq_true (show inB L i from ⟨h0, h1⟩)]
      go_enter Try.func35, Try.ntmps35
      go_wp2
      go_ret
      exact ⟨rfl, rfl⟩
    · rw [decide_eq_false (show ¬ inB L i from fun h => h1 h.2)]
      have hd : decide (i < (L.length : Int)) = false := decide_eq_false h1
      go_enter Try.func35, Try.ntmps35
      go_wp2
      go_ret
      exact ⟨rfl, rfl⟩
  · rw [decide_eq_false (show ¬ inB L i from fun h => h0 h.1)]
    have hd : decide (0 ≤ i) = false := decide_eq_false h0
    go_enter Try.func35, Try.ntmps35
    go_wp2
    go_ret
    exact ⟨rfl, rfl⟩
theorem own28_h {w : World} {v : Value} {bs : List UInt8} (h : Rd w v bs) (hl : bs.length ≤ 140737488355328) :
    Calls Try.prog 13 #[v] w fun e w' => ∃ v' : Value, e = .returned v' ∧ Own w' w.heap.size v' bs ∧ Below w.heap.size w w' := by
  obtain ⟨A, c, rfl, hc, hr⟩ := h
  have hf : commonplaceref28_Own.f (nB bs) = some (nB bs) := by unfold commonplaceref28_Own.f own.f; rw [if_pos (by rw [nB_length]; exact hl)]
  have := commonplaceref28_Own.calls A c (nB bs) (nB bs) w (by rw [nB_length]; exact hr) (by rw [nB_length]; exact hc) hf
  rw [nB_length] at this
  exact this
theorem bag_reads {w : World} {base n c : Nat} {A : Option Addr} {L : List Lt} (h : Bag w base (.slice A n c) L) : ReadsRow (dL.M w base (fun _ => True)) dL.sz w A L.length L := by
  obtain ⟨A', c', he, hl, hr⟩ := OwnRow.reads h.2
  cases he
  exact hr.imp_ (Below.refl _ _) (fun _ _ hp => dL.M_mono (fun _ _ => trivial) hp)
/-- a new bag has been put into a net -/
theorem net_fresh {t : TypeId} {w w3 : World} {base g : Nat} {v v3 : Value} {L' : List Lt} (hx : Bx w g t #[v]) (hg : base ≤ g) (hx3 : Bx w3 g t #[v]) (hm : ∀ k, k < w.heap.size → k ≠ g → w3.heap[k]? = w.heap[k]?) (hsz : w.heap.size ≤ w3.heap.size) (hB3 : Below base w w3) (hR : Bag w3 base v3 L')
    (hf : ∀ k, v3.ownBlock = some k → w.heap.size ≤ k) (h1 : t ≠ 36) (h2 : t ≠ 5) : NetTo t w base g v L' (w3.setCell ⟨g, 0, none⟩ v3) := by
  refine ⟨v3, ⟨hx3.set 0 v3, hg, ?_⟩, hB3.setCell hg _, ⟨by simpa using hsz, fun k hk hkg hkr => ?_⟩, .inr hf⟩
  · refine Kd.R_set hR hx3 (fun q hq => ?_) 0 v3
    have hq' : q = 36 ∨ q = 5 := by simpa [dL, dF, Kd.iso, Kd.pair, Kd.slice, Kd.int, Kd.bool, Kd.scalar] using hq
    rcases hq' with rfl | rfl
    · exact h1.symm
    · exact h2.symm
  · rw [Below.heap_setCell _ _ _ _ hkg]
    exact hm k hk hkg
def NetDone (t : TypeId) (w : World) (base g : Nat) (v : Value) (L : List Lt) (e : Ending) (w' : World) : Prop := e = .returned (.tuple #[]) ∧ NetTo t w base g v L w'
set_option maxRecDepth 100000 in
set_option maxHeartbeats 1000000 in
theorem refSend_h {w : World} {base g : Nat} {v vf : Value} {L : List Lt} (hn : NetAt 46 w base g v L) (who : Nat) (bs : List UInt8) (hf : Rd w vf bs) (hl : bs.length ≤ 140737488355328) (hL : (L.length + 1) * 40 ≤ 140737488355328) :
    Calls Try.prog 18 #[.pointer (some ⟨g, 0, none⟩), .int .u64 (who : Int), vf] w (NetDone 46 w base g v (L ++ [⟨who, bs, false⟩])) := by
  have HN := Aside0.mk hn
  have hbase := hn.base
  have hlt := hn.1.lt
  obtain ⟨A, c, rfl⟩ := hn.2.2.slice
  have q := hn.1.cell 0
  have HRD := Aside0.mk (bag_reads hn.2.2)
  have HF := Aside0.mk hf
  obtain ⟨Af, cf, rfl, _, _⟩ := hf
  have HL1 := Aside0.mk (show (([] : List Lt).length + L.length) * 40 ≤ 140737488355328 by simp; omega)
  have HL2 := Aside0.mk hL
  clear hn hL
  go_enter Try.func18, Try.ntmps18
  go_wp2_with (at_builtin; refine Kd.R_append_rows dL (w0 := w) base rfl (.const (.slice none 0 0)) (.tmp 10) 26 36 (.agg #[.int .u64 0, .slice none 0 0, .bool false]) 40 rfl Try.underlying26 info36 rfl (by decide) (by decide) (.slice none 0 0) [] L A L.length c (fun _ => True) (fun _ => True) rfl rfl (Bag.nil w base) HRD.out (fun _ _ h => h) (fun _ _ => ⟨trivial, by simp [Value.ownBlock]⟩) (fun _ _ => trivial) (Below.refl _ _) hbase HL1.out ?_; intro v1 w1 hR1 hB1 hG1 hAt1)
  have hbag1 : Bag w1 base v1 L := hR1
  obtain ⟨A1, c1, e1⟩ := hbag1.slice
  subst e1
  have hs1 := hG1.size
  have hbw1 : Below w.heap.size w w1 := ⟨hG1.os, hG1.tape, hG1.output, hG1.size, fun k hk => hG1.block k hk (by simp [Value.ownBlock])⟩
  have HB1 := Aside0.mk hbw1
  have HBAG1 := Aside0.mk hbag1
  have HAT1 := Aside0.mk hAt1
  clear hR1 hB1 hG1 hAt1 hbag1 hbw1
  refine (own28_h (HF.out.below HB1.out) hl).mono ?_
  rintro e w2 ⟨v2, rfl, ho2, hb2⟩
  obtain ⟨A2, c2, rfl⟩ := ho2.slice
  have HM := Aside0.mk (let_new (v1 := .slice A2 bs.length c2) ⟨who, bs, false⟩ HBAG1.out (Nat.le_trans hbase hs1) ho2)
  have HBAG2 := Aside0.mk (HBAG1.out.below hb2)
  have HB2 := Aside0.mk (chain HB1.out hb2)
  have HS2 := Aside0.mk hb2.size
  clear ho2 hb2
  go_wp2_with (at_builtin; refine Kd.R_append dL (w0 := w) base rfl (.tmp 11) (.tmp 16) 26 36 (.agg #[.int .u64 0, .slice none 0 0, .bool false]) 40 rfl Try.underlying26 info36 rfl (by decide) (by decide) (.slice A1 L.length c1) L ⟨who, bs, false⟩ [.int .u64 (who : Int), .slice A2 bs.length c2, .bool false] (fun _ => True) (fun q => some q ≠ (Value.slice A1 L.length c1).ownBlock) rfl rfl HM.out (fun _ h => ⟨trivial, h⟩) (fun _ _ => trivial) HBAG2.out (HB2.out.mono hbase) (by have := HB2.out.size; omega) HL2.out ?_
               intro v3 w3 hR3 hB3 hG3 hAt3
               obtain ⟨A3, c3, e3⟩ := Kd.R_slice hR3
               rw [show (L ++ [(⟨who, bs, false⟩ : Lt)]).length = L.length + 1 by simp] at e3
               subst e3
               have hne1 : ∀ k, k < w.heap.size → some k ≠ (Value.slice A1 L.length c1).ownBlock := (fun k hk e => by
                 rcases HAT1.out with h | ⟨b, h, hb⟩
                 · rw [h] at e; simp [Value.ownBlock] at e
                 · rw [h] at e; injection e with e; omega)
               have hx3 : Bx w3 g 46 #[.slice A L.length c] := (HN.out.1.below HB2.out hlt).grown hG3 (hne1 g hlt)
               have q3 := hx3.cell 0
               have f3 := hx3.fz 0
               have hlt3 := hx3.lt
               have HE := Aside0.mk (net_fresh HN.out.1 HN.out.2.1 hx3 (fun k hk _ => (hG3.block k (Nat.lt_of_lt_of_le hk HB2.out.size) (hne1 k hk)).trans (HB2.out.block k hk)) (Nat.le_trans HB2.out.size hG3.size) hB3 hR3 (fun k hk => by
                 rcases hAt3 with h | ⟨b, h, hb⟩
                 · rw [h] at hk
                   rcases Nat.lt_or_ge k w.heap.size with hlt | hge
                   · exact absurd hk.symm (hne1 k hlt)
                   · exact hge
                 · rw [h] at hk; injection hk with hk; have := HB2.out.size; omega) (by decide) (by decide))
               clear hR3 hB3 hG3 hAt3 hx3 hne1)
  go_end0
  exact ⟨rfl, HE.out⟩
end Go.Proofs.Ytgmbleaecfmfiaa.Given
