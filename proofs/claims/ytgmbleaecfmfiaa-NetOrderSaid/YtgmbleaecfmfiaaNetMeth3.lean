/- THE CONTRACTS OF net.Net's METHODS Len, All, AND OF commonplaceref28.SameLetter. No condition beyond what each says. -/
import Derived.Test.YtgmbleaecfmfiaaNetMeth2
namespace Go.Proofs.Ytgmbleaecfmfiaa.Given
open Go.RowKit Go.Shelf Go.Proofs.YtgmbleaecfmfiaaW.PrintWords Go.Proofs.YtgmbleaecfmfiaaW.PrintLast Go.Proofs.YtgmbleaecfmfiaaW.PrintMore Go.Proofs.Ytgmbleaecfmfiaa.PS
set_option linter.unusedVariables false
set_option maxRecDepth 100000 in
theorem len_h {w : World} {g n c : Nat} {A : Option Addr} (hx : Bx w g 28 #[.slice A n c]) :
    Calls Try.prog 24 #[.pointer (some ⟨g, 0, none⟩)] w fun e w' => e = .returned (.int .i64 n) ∧ w' = w := by
  have q := hx.cell 0
  have hlt := hx.lt
  clear hx
  go_enter Try.func24, Try.ntmps24
  go_wp2
  go_ret
  exact ⟨rfl, rfl⟩
set_option maxRecDepth 100000 in
theorem len_nil (w : World) : Calls Try.prog 24 #[.pointer none] w fun e w' => e = .returned (.int .i64 0) ∧ w' = w := by
  go_enter Try.func24, Try.ntmps24
  go_wp2
  go_ret
  exact ⟨rfl, rfl⟩
theorem rd_string {w : World} {A : Option Addr} {c : Nat} {bs : List UInt8} (h : Rd w (.slice A bs.length c) bs) : (convert 32 9 (.slice A bs.length c)).run Try.prog w = .ok (.string ⟨bs.toArray⟩) w := by
  obtain ⟨A', c', e, hc, hr⟩ := h
  cases e
  have := Kd.C_string (P := Try.prog) (src := 32) (dst := 9) (e := 5) (c := c) Try.underlying32 Try.underlying5 Try.underlying9 hr
  rw [this]
  unfold strOfNums nB
  rw [List.map_map, List.map_congr_left (g := id) (fun b _ => by simp), List.map_id]
set_option maxRecDepth 100000 in
set_option maxHeartbeats 1000000 in
/-- of two letters that are the same -/
theorem sameLet_h {w : World} {v v2 : Value} (l : Lt) (h1 : Rd w v l.fr) (h2 : Rd w v2 l.fr) :
    Calls Try.prog 17 #[.agg #[.int .u64 (l.who : Int), v, .bool l.sp], .agg #[.int .u64 (l.who : Int), v2, .bool l.sp]] w fun e w' => e = .returned (.bool true) ∧ Below w.heap.size w w' := by
  have h1' := h1
  have h2' := h2
  obtain ⟨A, c, rfl, _, _⟩ := h1
  obtain ⟨A2, c2, rfl, _, _⟩ := h2
  have k1 : (convert 32 9 (.slice A l.fr.length c)).run Try.prog ((w.alloc (.cells #[.int .u64 (l.who : Int), .slice A l.fr.length c, .bool l.sp] 36)).alloc (.cells #[.int .u64 (l.who : Int), .slice A2 l.fr.length c2, .bool l.sp] 36)) = .ok (.string ⟨l.fr.toArray⟩) ((w.alloc (.cells #[.int .u64 (l.who : Int), .slice A l.fr.length c, .bool l.sp] 36)).alloc (.cells #[.int .u64 (l.who : Int), .slice A2 l.fr.length c2, .bool l.sp] 36)) :=
    rd_string (h1'.below (((Below.refl _ _).alloc (Nat.le_refl _) _).alloc (by simp) _))
  have k2 : (convert 32 9 (.slice A2 l.fr.length c2)).run Try.prog ((w.alloc (.cells #[.int .u64 (l.who : Int), .slice A l.fr.length c, .bool l.sp] 36)).alloc (.cells #[.int .u64 (l.who : Int), .slice A2 l.fr.length c2, .bool l.sp] 36)) = .ok (.string ⟨l.fr.toArray⟩) ((w.alloc (.cells #[.int .u64 (l.who : Int), .slice A l.fr.length c, .bool l.sp] 36)).alloc (.cells #[.int .u64 (l.who : Int), .slice A2 l.fr.length c2, .bool l.sp] 36)) :=
    rd_string (h2'.below (((Below.refl _ _).alloc (Nat.le_refl _) _).alloc (by simp) _))
  clear h1' h2'
  go_enter Try.func17, Try.ntmps17
  go_wp2
  go_ret
  exact ⟨rfl, ((Below.refl _ _).alloc (Nat.le_refl _) _).alloc (by simp) _⟩
set_option maxRecDepth 100000 in
set_option maxHeartbeats 2000000 in
theorem all_h {w : World} {base g : Nat} {v : Value} {L : List Lt} (hn : NetAt 28 w base g v L) (hl : lensOk L) (hL : (L.length + 1) * 40 ≤ 140737488355328) :
    Calls Try.prog 12 #[.pointer (some ⟨g, 0, none⟩)] w fun e w' => ∃ v', e = .returned v' ∧ Bag w' w.heap.size v' L ∧ Below w.heap.size w w' := by
  have HN := Aside0.mk hn
  obtain ⟨A, c, rfl⟩ := hn.2.2.slice
  have CL := Aside0.mk (len_h hn.1)
  have HLN := Aside0.mk hl
  clear hn hl
  go_enter Try.func12, Try.ntmps12
  go_wp2_with fail
  refine CL.out.mono ?_
  rintro e w1 ⟨rfl, rfl⟩
  go_wp2_with fail
  go_loopw [2, 6] (fun vv kk wr => ∃ k : Nat, k ≤ L.length ∧ kk = .int .i64 k ∧ Aside0 (Bag wr w1.heap.size vv (L.take k)) ∧ Aside0 (Below w1.heap.size w1 wr)) (fun _ kk _ => L.length - (intOf kk).toNat)
  case atStart => exact ⟨0, by omega, rfl, ⟨by rw [List.take_zero]; exact Bag.nil _ _⟩, ⟨Below.refl _ _⟩⟩
  case round =>
    obtain ⟨k, hk, rfl, HBG, HB⟩ := hrel
    obtain ⟨A2, c2, e2⟩ := HBG.out.slice
    rw [show (L.take k).length = k by rw [List.length_take]; omega] at e2
    subst e2
    have hl40 : L.length ≤ 140737488355328 := by omega
    by_cases hlt : k < L.length
    · have hnr := HN.out.below HB.out
      have q := hnr.1.cell 0
      have hltg := hnr.1.lt
      obtain ⟨r, cur, _, e, hxr, hbr, h1, h2, h3, hla⟩ := hnr.2.2.open (by omega)
      subst e
      obtain ⟨vf, c0, c1, c2', hvf⟩ := hla k hlt
      obtain ⟨Af, cf, rfl⟩ := hvf.slice
      rw [← hxr.cell] at c0 c1 c2'
      have hltr := hxr.lt
      have hln := lens_at HLN.out k hlt
      have htk : L.take (k + 1) = L.take k ++ [L[k]] := by rw [List.take_add_one, List.getElem?_eq_getElem hlt]; rfl
      have HTK := Aside0.mk htk
      have hlk : (L.take k).length = k := by rw [List.length_take]; omega
      have HLK := Aside0.mk hlk
      have HVF := Aside0.mk hvf.rd
      have HLN2 := Aside0.mk hln
      clear htk hlk hnr hxr hbr h1 h2 h3 hla hvf hln
      generalize L[k] = l at *
      go_wp2_with fail
      refine (letOwn_h l HVF.out HLN2.out).mono ?_
      rintro e w2 ⟨v2, rfl, ho2, hb2⟩
      obtain ⟨A3, c3, rfl⟩ := ho2.slice
      have HM := Aside0.mk (let_new (v1 := .slice A3 l.fr.length c3) l HBG.out HB.out.size ho2)
      have HBG2 := Aside0.mk (HBG.out.below hb2)
      have HB2 := Aside0.mk (chain HB.out hb2)
      have HLL := Aside0.mk (show ((L.take k).length + 1) * 40 ≤ 140737488355328 by rw [HLK.out]; omega)
      clear ho2 hb2
      go_wp2_with (at_builtin; refine Kd.R_append dL (w0 := w1) w1.heap.size rfl (.tmp 9) (.tmp 18) 26 36 (.agg #[.int .u64 0, .slice none 0 0, .bool false]) 40 rfl Try.underlying26 info36 rfl (by decide) (by decide) (.slice A2 k c2) (L.take k) l [.int .u64 (l.who : Int), .slice A3 l.fr.length c3, .bool l.sp] (fun _ => True) (fun q => some q ≠ (Value.slice A2 k c2).ownBlock) rfl rfl HM.out (fun _ h => ⟨trivial, h⟩) (fun _ _ => trivial) HBG2.out HB2.out HB2.out.size HLL.out ?_; intro v3 w3 hR3 hB3 hG3 hAt3)
      have HR3 : Aside0 (Bag w3 w1.heap.size v3 (L.take (k + 1))) := ⟨by rw [HTK.out]; exact hR3⟩
      have HB3 := Aside0.mk hB3
      clear hR3 hB3 hG3 hAt3
      go_roundw
      case rel => exact ⟨k + 1, by omega, by go_num, HR3, HB3⟩
      case measure => simp [intOf]; omega
    · obtain rfl : k = L.length := by omega
      have hR := HBG.out
      rw [List.take_of_length_le (Nat.le_refl _)] at hR
      have HR := Aside0.mk hR
      clear hR
      go_wp2
      go_ret
      refine ⟨_, rfl, ?_, HB.out⟩
      have := HR.out
      simpa using this
end Go.Proofs.Ytgmbleaecfmfiaa.Given
