/- THE WALK OF THE LAW NetOrder: it returns true. Condition: the slices' sizes; the numbers are of their kinds. -/
import Derived.Test.YtgmbleaecfmfiaaNetInts
import Derived.Deep.QuietTactic
import Derived.BigQuiet
namespace Go.Proofs.Ytgmbleaecfmfiaa.Given
open Go.RowKit Go.Shelf Go.Proofs.YtgmbleaecfmfiaaW.PrintWords Go.Proofs.YtgmbleaecfmfiaaW.PrintLast Go.Proofs.YtgmbleaecfmfiaaW.PrintMore Go.Proofs.Ytgmbleaecfmfiaa.PS
set_option linter.unusedVariables false
set_option linter.unusedSimpArgs false
theorem nums_of_row {k : IntKind} {a : Option Addr} {len cap : Nat} {z : List Int} {w : World} (h : (a = none ∧ len = 0 ∧ cap = 0 ∧ z = []) ∨ ∃ x, a = some x ∧ len ≤ cap ∧ cap ≤ maxLen ∧ z.length = cap ∧ (∀ i, i < z.length → w.cell? (x.add i) = some (.int k (z.getD i 0))) ∧ ∀ n ∈ z, (Lit.int k n).wf = true) :
    ∃ zs : List Int, len = zs.length ∧ Row k w (.slice a len cap) zs ∧ ∀ n ∈ zs, (Lit.int k n).wf = true := by
  obtain ⟨l, rfl, hr, hm, hw, hc⟩ := ReadsInt.ofRowC h
  exact ⟨l, rfl, ⟨a, cap, rfl, hc, Kd.C_of_reads (d := (0 : Int)) (h1 := fun _ => rfl) hr⟩, hw⟩
theorem infoU : (Try.prog.info? 31).map (fun i => (i.zero, i.size, i.bytes)) = some (some (.int .u64 0), 1, 8) := by kernel_rfl
theorem nums_typed {k : IntKind} {e : TypeId} {w w1 : World} {base : Nat} {v : Value} {xs : List Int} (h : Nums k e w base v xs) (hm : ∀ q cells, Bx w q e cells → w1.heap[q]? = w.heap[q]?) : Nums k e w1 base v xs := by
  have hb := Kd.R_bound h
  refine Kd.R_mono (Kd.R_move hb (fun q hq => ?_)) (fun _ _ => trivial)
  obtain ⟨_, _, _, t, ht, cells, hc⟩ := hq
  have ht' : t = e := by simpa [Kd.int, Kd.scalar] using ht
  subst ht'
  exact hm q cells hc
theorem nums_own {k : IntKind} {e : TypeId} {w : World} {base : Nat} {v : Value} {xs : List Int} (h : Nums k e w base v xs) (q : Nat) (hq : v.ownBlock = some q) : ∃ cells, Bx w q e cells := by
  obtain ⟨_, inner, ho, _⟩ := h
  exact own_typed ho q hq
/-- a row of numbers, behind an act of a net -/
theorem nums_net {k : IntKind} {e t : TypeId} {w w' : World} {base base2 g : Nat} {v v2 : Value} {xs : List Int} {L : List Lt} (h : Nums k e w base2 v2 xs) (hn : NetAt t w base g v L) (hk : KeepBut w w' g v.ownBlock) (h1 : e ≠ t) (h2 : e ≠ 36) : Nums k e w' base2 v2 xs :=
  nums_typed h fun q cells hq => hk.2 q hq.lt (hq.ne hn.1 h1) fun e' => by
    obtain ⟨_, inner, ho, _⟩ := hn.2.2
    obtain ⟨c2, hc2⟩ := own_typed ho q e'.symm
    exact hq.ne hc2 h2 rfl
/-- a net, behind an append to a row of numbers -/
theorem net_nums {k : IntKind} {e t : TypeId} {w w1 : World} {base base2 g : Nat} {v v2 : Value} {xs : List Int} {L : List Lt} (hn : NetAt t w base g v L) (h : Nums k e w base2 v2 xs) (hg : w.grownBy w1 v2.ownBlock) (h1 : e ≠ t) (h2 : e ≠ 36) (h3 : e ≠ 5) : NetAt t w1 base g v L := by
  have hm : ∀ q t2 cells, Bx w q t2 cells → t2 ≠ e → w1.heap[q]? = w.heap[q]? := fun q t2 cells hq hne => hg.block q hq.lt fun e' => by
    obtain ⟨c2, hc2⟩ := nums_own h q e'.symm
    exact hq.ne hc2 hne rfl
  refine ⟨(hm g t _ hn.1 h1.symm).trans hn.1, hn.2.1, hn.2.2.step (fun q cells hq => hm q _ cells hq h3.symm) (fun q hq => ?_)⟩
  obtain ⟨_, inner, ho, _⟩ := hn.2.2
  obtain ⟨c2, hc2⟩ := own_typed ho q hq
  exact hm q _ c2 hc2 h2.symm
def ordL (us : List Int) (k : Nat) : List Lt := (List.range k).map fun i => ⟨(us.getD i 0).toNat, [UInt8.ofNat i], false⟩
theorem ordL_succ (us : List Int) (k : Nat) : ordL us (k + 1) = ordL us k ++ [⟨(us.getD k 0).toNat, [UInt8.ofNat k], false⟩] := by
  unfold ordL
  rw [List.range_succ, List.map_append]
  rfl
theorem ordL_len (us : List Int) (k : Nat) : (ordL us k).length = k := by simp [ordL]
def key (l : Lt) : Nat := (l.fr.getD 0 0).toNat
/-- each frame is a byte; they rise -/
def Inc (L : List Lt) : Prop := (∀ l ∈ L, l.fr.length = 1) ∧ L.Pairwise fun a b => key a < key b
theorem ordL_inc (us : List Int) (k : Nat) (hk : k ≤ 60) : Inc (ordL us k) := by
  refine ⟨fun l hl => ?_, ?_⟩
  · obtain ⟨i, _, rfl⟩ := List.mem_map.1 hl
    rfl
  · unfold ordL
    rw [List.pairwise_map]
    refine List.Pairwise.imp_of_mem ?_ List.pairwise_lt_range
    intro a b ha hb hab
    have h1 := List.mem_range.1 ha
    have h2 := List.mem_range.1 hb
    show (UInt8.ofNat a).toNat < (UInt8.ofNat b).toNat
    rw [UInt8.toNat_ofNat', UInt8.toNat_ofNat']
    omega
theorem Inc.erase {L : List Lt} (h : Inc L) (i : Nat) : Inc (L.eraseIdx i) := ⟨fun l hl => h.1 l (List.mem_of_mem_eraseIdx hl), h.2.sublist (List.eraseIdx_sublist _ _)⟩
theorem ordL_who (us : List Int) (k : Nat) (hk : k ≤ us.length) (hw : ∀ n ∈ us, (Lit.int .u64 n).wf = true) : us.take k = (ordL us k).map fun l => (l.who : Int) := by
  apply List.ext_getElem
  · simp [ordL]; omega
  · intro i h1 h2
    have hi : i < us.length := by rw [List.length_take] at h1; omega
    have hwf := hw us[i] (List.getElem_mem hi)
    simp [Lit.wf, IntKind.min, IntKind.max, IntKind.signed, IntKind.bits] at hwf
    simp [ordL, List.getD, hi]
    omega
theorem ordL_who' (us : List Int) (hw : ∀ n ∈ us, (Lit.int .u64 n).wf = true) : us = (ordL us us.length).map fun l => (l.who : Int) := by
  have := ordL_who us us.length (Nat.le_refl _) hw
  rwa [List.take_length] at this
set_option maxRecDepth 100000 in
set_option maxHeartbeats 8000000 in
theorem NetOrder_walk {w : World} {v1 v2 : Value} {us ds : List Int} (h1 : Row .u64 w v1 us) (f1 : ∀ n ∈ us, (Lit.int .u64 n).wf = true) (l1 : us.length * 8 ≤ 140737488351232) (h2 : Row .i64 w v2 ds) (f2 : ∀ n ∈ ds, (Lit.int .i64 n).wf = true) (l2 : ds.length * 8 ≤ 140737488351232) :
    Calls Try.prog 3 #[v1, v2] w fun e w' => e = .returned (.bool true) ∧ Below w.heap.size w w' := by
  have H1 := Aside0.mk h1
  have H2 := Aside0.mk h2
  have F1 := Aside0.mk f1
  have F2 := Aside0.mk f2
  obtain ⟨A1, c1, rfl, _, _⟩ := h1
  obtain ⟨A2, c2, rfl, _, _⟩ := h2
  clear f1 f2
  by_cases hu : us.length ≤ 60 ∧ ds.length ≤ 60
  · obtain ⟨hu1, hu2⟩ := hu
    have hd1 : decide ((60 : Int) < (us.length : Int)) = false := decide_eq_false (by omega)
    have hd2 : decide ((60 : Int) < (ds.length : Int)) = false := decide_eq_false (by omega)
    go_enter Try.func3, Try.ntmps3
    go_wp2_with fail
    generalize hW : World.alloc _ _ = W
    obtain ⟨hx, hB, hs⟩ := box1 hW
    clear hW
    have HN0 := Aside0.mk (net_new hx)
    have HB0 := Aside0.mk hB
    clear hx hB hs
    go_loopw [6, 7] (fun vv kk wr => ∃ (k : Nat) (vN : Value), k ≤ us.length ∧ kk = .int .i64 k ∧ Aside0 (NetAt 28 wr w.heap.size w.heap.size vN (ordL us k)) ∧ Aside0 (Nums .u64 31 wr w.heap.size vv (us.take k)) ∧ Aside0 (Below w.heap.size w wr)) (fun _ kk _ => us.length - (intOf kk).toNat)
    case atStart => exact ⟨0, .slice none 0 0, by omega, rfl, HN0, ⟨Kd.R_nil _ _ _ _ _⟩, HB0⟩
    case round =>
      obtain ⟨k, vN, hk, rfl, HN, HU, HB⟩ := hrel
      obtain ⟨Av, cv, hv⟩ := Kd.R_slice HU.out
      have hlk : (us.take k).length = k := by rw [List.length_take]; omega
      rw [hlk] at hv
      subst hv
      by_cases hlt : k < us.length
      · obtain ⟨ad, e, hc⟩ := Row.at (H1.out.below HB.out) k hlt
        subst e
        obtain ⟨u, hu⟩ : ∃ u : Nat, us[k] = (u : Int) := by
          have := F1.out us[k] (List.getElem_mem hlt)
          simp [Lit.wf, IntKind.min, IntKind.max, IntKind.signed, IntKind.bits] at this
          exact ⟨us[k].toNat, by omega⟩
        rw [hu] at hc
        have hk60 : (k : Int) < 256 := by omega
        have HU2 := Aside0.mk hu
        clear hu
        go_wp2_with fail
        generalize hW : World.alloc _ _ = W1
        obtain ⟨hx1, hb1, hs1⟩ := box1 hW
        clear hW
        have hn1 := HN.out.below hb1
        have hnu1 : Nums .u64 31 W1 w.heap.size (.slice Av k cv) (us.take k) := Kd.R_below HU.out hb1
        have hrd := rd_new [UInt8.ofNat k] hx1 (by
          have e : (UInt8.ofNat k).toNat = k := by rw [UInt8.toNat_ofNat']; omega
          simp [e]) (by simp)
        refine (send_h hn1 u [UInt8.ofNat k] hrd (by simp) (by rw [ordL_len]; omega)).mono ?_
        rintro e w2 ⟨rfl, vN2, hn2, hb2, hk2, hat2⟩
        have hnu2 := nums_net hnu1 hn1 hk2 (by decide) (by decide)
        have e3 : ordL us k ++ [⟨u, [UInt8.ofNat k], false⟩] = ordL us (k + 1) := by
          rw [ordL_succ]
          have e4 : us.getD k 0 = (u : Int) := by simp [List.getD, hlt, HU2.out]
          rw [e4]
          rfl
        rw [e3] at hn2
        have HB2 := Aside0.mk ((HB.out.trans (hb1.mono HN.out.base)).trans hb2)
        have hc2 : w2.cell? (ad.add k) = some (.int .u64 (u : Int)) := by
          obtain ⟨ad', e, hc'⟩ := Row.at (H1.out.below HB2.out) k hlt
          cases e
          rw [hc', HU2.out]
        have HN2 := Aside0.mk hn2
        have HNU2 := Aside0.mk hnu2
        have HLK := Aside0.mk hlk
        have HTK := Aside0.mk (show us.take (k + 1) = us.take k ++ [(u : Int)] by rw [List.take_add_one, List.getElem?_eq_getElem hlt, HU2.out]; rfl)
        have HL8 := Aside0.mk (show ((us.take k).length + 1) * 8 ≤ 140737488355328 by rw [hlk]; omega)
        clear hx1 hb1 hs1 hn1 hnu1 hrd hn2 hb2 hk2 hat2 hnu2 e3 hc hlk
        go_wp2_with (at_builtin; refine Kd.R_append (Kd.int .u64) (w0 := w) w.heap.size rfl (.tmp 40) (.tmp 45) 22 31 (.int .u64 0) 8 rfl Try.underlying22 infoU rfl (by decide) (by decide) (.slice Av k cv) (us.take k) (u : Int) [.int .u64 (u : Int)] (fun _ => True) (fun q => some q ≠ (Value.slice Av k cv).ownBlock) rfl rfl rfl (fun _ h => ⟨trivial, h⟩) (fun _ _ => trivial) HNU2.out HB2.out HB2.out.size HL8.out ?_; intro v3 w3 hR3 hB3 hG3 hAt3)
        have HR3 : Aside0 (Nums .u64 31 w3 w.heap.size v3 (us.take (k + 1))) := ⟨by rw [HTK.out]; exact hR3⟩
        have HB3 := Aside0.mk hB3
        have HN3 := Aside0.mk (net_nums HN2.out HNU2.out hG3 (by decide) (by decide) (by decide))
        clear hR3 hB3 hG3 hAt3
        go_roundw
        case rel => exact ⟨k + 1, vN2, by omega, by go_num, HN3, HR3, HB3⟩
        case measure => simp [intOf]; omega
      · obtain rfl : k = us.length := by omega
        rw [List.take_length] at hlk
        have hU := HU.out
        rw [List.take_length] at hU
        have hU3 : Nums .u64 31 wr w.heap.size (.slice Av us.length cv) ((ordL us us.length).map fun l => (l.who : Int)) := by
          rw [← ordL_who' us F1.out]
          exact hU
        have HI := Aside0.mk (ordL_inc us us.length hu1)
        have HLL := Aside0.mk (show (ordL us us.length).length ≤ 60 by rw [ordL_len]; exact hu1)
        have HN1 := HN
        have HU1 := Aside0.mk hU3
        clear HN HU hU hU3
        clear hlk
        obtain ⟨w1, rfl⟩ : ∃ w1 : World, w1 = wr := ⟨_, rfl⟩
        go_wp2_with fail
        go_loopw [6, 8] (fun vv jj wr => ∃ (j : Nat) (L : List Lt) (vN : Value), j ≤ ds.length ∧ jj = .int .i64 j ∧ Aside0 (NetAt 28 wr w.heap.size w.heap.size vN L) ∧ Aside0 (Nums .u64 31 wr w.heap.size vv (L.map fun l => (l.who : Int))) ∧ Aside0 (Inc L) ∧ Aside0 (L.length ≤ 60) ∧ Aside0 (Below w.heap.size w wr)) (fun _ jj _ => ds.length - (intOf jj).toNat)
        case atStart => exact ⟨0, _, vN, by omega, rfl, HN1, HU1, HI, HLL, HB⟩
        case round =>
          obtain ⟨j, L, vN2, hj, rfl, HN, HU, HINC, HLEN, HBB⟩ := hrel
          obtain ⟨Aw, cw, hv⟩ := Kd.R_slice HU.out
          rw [List.length_map] at hv
          subst hv
          have hl60 := HLEN.out
          by_cases hlt : j < ds.length
          · obtain ⟨ad, e, hc⟩ := Row.at (H2.out.below HBB.out) j hlt
            subst e
            have hdw := F2.out ds[j] (List.getElem_mem hlt)
            simp [Lit.wf, IntKind.min, IntKind.max, IntKind.signed, IntKind.bits] at hdw
            generalize ds[j] = d at *
            have HDW := Aside0.mk hdw
            clear hdw
            have CD := Aside0.mk (drop_h HN.out d)
            by_cases hib : inB L d
            · have hT : takeL L d = (L.eraseIdx d.toNat, L.getD d.toNat ⟨0, [], false⟩, 0) := if_pos hib
              rw [hT] at CD
              obtain ⟨m, rfl⟩ := Int.eq_ofNat_of_zero_le hib.1
              have hm : m < L.length := by have := hib.2; omega
              have hd3 : decide ((m : Int) < 0) = false := decide_eq_false (by omega)
              have hd4 : decide ((L.length : Int) ≤ (m : Int)) = false := decide_eq_false (by omega)
              have hd5 : decide (L.length ≤ m) = false := decide_eq_false (by omega)
              clear hT hib
              go_wp2_with fail
              refine CD.out.mono ?_
              rintro e w2 ⟨rfl, vN3, hn2, hb2, hk2, hat2⟩
              have HNU2 := Aside0.mk (nums_net HU.out HN.out hk2 (by decide) (by decide))
              have HN2 : Aside0 (NetAt 28 w2 w.heap.size w.heap.size vN3 (L.eraseIdx m)) := ⟨hn2⟩
              have HB2 := Aside0.mk (HBB.out.trans hb2)
              have hb2h : w.heap.size ≤ w2.heap.size := HB2.out.size
              clear hn2 hb2 hk2 hat2
              obtain ⟨rw_, cw', e, hgw, hlw, _⟩ := Kd.R_form HNU2.out (by rw [List.length_map]; omega)
              rw [List.length_map] at e
              cases e
              obtain ⟨Aq, cq, e, hcw, hcr⟩ := (Nums.row HNU2.out)
              rw [List.length_map] at e hcw
              cases e
              have hwb : m ≤ cw := by omega
              have HT1 : Aside0 ((Kd.int .u64).C w2 (some ⟨rw_, 0, none⟩) m ((L.map fun l => (l.who : Int)).take m)) := ⟨by
                have := Kd.C_take (m := m) hcr (by rw [List.length_map]; omega)
                rwa [List.length_take, List.length_map, Nat.min_eq_left (by omega)] at this⟩
              obtain ⟨A', hA', hC'⟩ : ∃ A' : Option Addr, (if cw = m + 1 then (some ⟨rw_, 0, none⟩ : Option Addr) else some ⟨rw_, m + 1, none⟩) = A' ∧ (Kd.int .u64).C w2 A' (L.length - (m + 1)) ((L.map fun l => (l.who : Int)).drop (m + 1)) := ⟨_, rfl, by
                have := Kd.C_drop (c := cw) (m := m + 1) hcr (by rw [List.length_map]; omega) (by rw [List.length_map]; exact hcw)
                rw [List.length_drop, List.length_map] at this
                have e : (Option.map (fun x : Addr => x.add ((m + 1) * (Kd.int .u64).sz)) (some ⟨rw_, 0, none⟩)) = some ⟨rw_, m + 1, none⟩ := by
                  show some ((⟨rw_, 0, none⟩ : Addr).add ((m + 1) * 1)) = _
                  rw [Addr.add_lit]
                  simp
                rw [e] at this
                exact this⟩
              have HT1d := Aside0.mk (Kd.C_drew HT1.out)
              have HC2 := Aside0.mk hC'
              have hw0 : (0 : Int) ≤ (m : Int) + 1 := by omega
              have hw1 : ((m : Int) + 1).toNat = m + 1 := by omega
              have hw3 : (m : Int) + 1 ≤ (L.length : Int) := by omega
              have hw4 : m + 1 ≤ cw := by omega
              have hwr : IntKind.i64.wrap ((m : Int) + 1) = (m : Int) + 1 := by rw [IntKind.wrap_i64]; omega
              have HLM := Aside0.mk (show (L.map fun l => (l.who : Int)).length = L.length by simp)
              have HHW := Aside0.mk hb2h
              clear hC' hcr
              go_wp2_with fail
              go_region_law (first
                | (refine step_append_nums rfl (.const (.slice none 0 0)) (.tmp 74) rfl Try.underlying22 infoU (by decide) w.heap.size (.slice none 0 0) [] ((L.map fun l => (l.who : Int)).take m) (some ⟨rw_, 0, none⟩) m cw (by simp [Act.eval, Act.put]) (by simp [Act.eval, Act.put]) (Kd.R_nil _ _ _ _ _) HT1d.out HHW.out (by simp; omega) ?_
                   intro v4 w4 hR4 hG4 hAt4
                   rw [List.nil_append] at hR4
                   have hb4 : Below w2.heap.size w2 w4 := ⟨hG4.os, hG4.tape, hG4.output, hG4.size, fun q hq => hG4.block q hq (by simp [Value.ownBlock])⟩
                   have HR4 := Aside0.mk hR4
                   have HB4 := Aside0.mk hb4
                   obtain ⟨A4, c4, e4⟩ := Kd.R_slice hR4
                   rw [List.length_take, HLM.out, Nat.min_eq_left (Nat.le_of_lt hm)] at e4
                   subst e4
                   clear hR4 hG4 hAt4 hb4)
                | (refine step_append_nums rfl (.tmp 75) (.tmp 79) rfl Try.underlying22 infoU (by decide) w.heap.size (.slice A4 m c4) ((L.map fun l => (l.who : Int)).take m) ((L.map fun l => (l.who : Int)).drop (m + 1)) A' (L.length - (m + 1)) (cw - (m + 1)) (by simp [Act.eval, Act.put]) (by simp [Act.eval, Act.put]) HR4.out (Kd.C_below HC2.out HB4.out) (Nat.le_trans HHW.out HB4.out.size) (by rw [List.length_take]; omega) ?_
                   intro v5 w5 hR5 hG5 hAt5
                   have HR5 := Aside0.mk hR5
                   have HN5 := Aside0.mk (net_nums (HN2.out.below HB4.out) HR4.out hG5 (by decide) (by decide) (by decide))
                   have HB5 := Aside0.mk ((HB2.out.trans (HB4.out.mono HHW.out)).grown hG5 (Nat.le_trans HHW.out HB4.out.size) (fun q hq => Kd.R_base HR4.out q hq))
                   clear hR5 hG5 hAt5))
              all_goals go_wp2_with fail
              all_goals go_roundw
              case rel =>
                have e6 : (L.map fun l => (l.who : Int)).take m ++ (L.map fun l => (l.who : Int)).drop (m + 1) = (L.eraseIdx m).map fun l => (l.who : Int) := by
                  rw [List.eraseIdx_eq_take_drop_succ, List.map_append, List.map_take, List.map_drop]
                have h6 := HR5.out
                rw [e6] at h6
                exact ⟨j + 1, L.eraseIdx m, vN3, by omega, by go_num, HN5, ⟨h6⟩, ⟨HINC.out.erase m⟩, ⟨by rw [List.length_eraseIdx]; split <;> omega⟩, HB5⟩
              case measure => simp [intOf]; omega
            · have hT : takeL L d = (L, ⟨0, [], false⟩, 17) := if_neg hib
              rw [hT] at CD
              clear hT
              have hor : d < 0 ∨ (L.length : Int) ≤ d := by unfold inB at hib; omega
              clear hib
              by_cases h0 : d < 0
              · have hd3 : decide (d < 0) = true := decide_eq_true h0
                go_wp2_with fail
                refine CD.out.mono ?_
                rintro e w2 ⟨rfl, vN3, hn2, hb2, hk2, hat2⟩
                have HNU2 := Aside0.mk (nums_net HU.out HN.out hk2 (by decide) (by decide))
                have HN2 := Aside0.mk hn2
                have HB2 := Aside0.mk (HBB.out.trans hb2)
                clear hn2 hb2 hk2 hat2
                go_wp2_with fail
                go_roundw
                case rel => exact ⟨j + 1, L, vN3, by omega, by go_num, HN2, HNU2, HINC, HLEN, HB2⟩
                case measure => simp [intOf]; omega
              · have hd3 : decide (d < 0) = false := decide_eq_false h0
                have hd4 : decide ((L.length : Int) ≤ d) = true := decide_eq_true (by omega)
                go_wp2_with fail
                refine CD.out.mono ?_
                rintro e w2 ⟨rfl, vN3, hn2, hb2, hk2, hat2⟩
                have HNU2 := Aside0.mk (nums_net HU.out HN.out hk2 (by decide) (by decide))
                have HN2 := Aside0.mk hn2
                have HB2 := Aside0.mk (HBB.out.trans hb2)
                clear hn2 hb2 hk2 hat2
                go_wp2_with fail
                go_roundw
                case rel => exact ⟨j + 1, L, vN3, by omega, by go_num, HN2, HNU2, HINC, HLEN, HB2⟩
                case measure => simp [intOf]; omega
          · obtain rfl : j = ds.length := by omega
            obtain ⟨w2, rfl⟩ : ∃ w2 : World, w2 = wr := ⟨_, rfl⟩
            have HLO : Aside0 (lensOk L) := ⟨fun l hl => by rw [HINC.out.1 l hl]; omega⟩
            go_wp2_with fail
            refine (all_h HN.out HLO.out (by omega)).mono ?_
            rintro e w3 ⟨v3, rfl, hbg, hb3⟩
            obtain ⟨A3, c3, rfl⟩ := hbg.slice
            have HBG := Aside0.mk hbg
            have HNU := Aside0.mk (Row.below (Nums.row HU.out) hb3)
            have HB3 := Aside0.mk (HBB.out.trans (hb3.mono HBB.out.size))
            clear hbg hb3
            go_wp2_with fail
            go_loopw [12] (fun ii wr => ∃ i : Nat, i ≤ L.length ∧ ii = .int .i64 i ∧ Aside0 (Below w3.heap.size w3 wr)) (fun ii _ => L.length - (intOf ii).toNat)
            case atStart => exact ⟨0, by omega, rfl, ⟨Below.refl _ _⟩⟩
            case round =>
              obtain ⟨i, hi, rfl, HBI⟩ := hrel
              by_cases hlt : i < L.length
              · obtain ⟨r, cur, _, e, hxr, _, _, _, _, hla⟩ := (HBG.out.below HBI.out).open (by omega)
                subst e
                obtain ⟨vf, c0, c1, _, hvf⟩ := hla i hlt
                obtain ⟨b, hfb⟩ : ∃ b : UInt8, L[i].fr = [b] := List.length_eq_one_iff.1 (HINC.out.1 L[i] (List.getElem_mem hlt))
                rw [hfb] at hvf
                obtain ⟨Af, cf, e⟩ := hvf.slice
                have e : vf = .slice Af 1 cf := e
                subst e
                obtain ⟨af, e, hcf⟩ := hvf.rd.at (by simp)
                subst e
                have hb0 : wr.cell? af = some (.int .u8 (b.toNat : Int)) := by
                  have z := hcf 0 (by simp)
                  rwa [show af.add 0 = af by cases af; simp [Addr.add]] at z
                obtain ⟨aw, e, hcw⟩ := Row.at (HNU.out.below HBI.out) i (by rw [List.length_map]; exact hlt)
                subst e
                rw [List.getElem_map] at hcw
                rw [← hxr.cell] at c0 c1
                have hltr := hxr.lt
                rcases Nat.eq_zero_or_pos i with hi0 | hi0
                · have hd5 : decide ((0 : Int) < (i : Int)) = false := decide_eq_false (by omega)
                  have hd5' : decide (0 < i) = false := decide_eq_false (by omega)
                  have HI0 := Aside0.mk hi0
                  clear hi0 hxr hla hvf hcf hfb
                  generalize L[i] = l at *
                  go_wp2_with fail
                  go_quiet (fail)
                  go_wp2
                  refine ⟨⟨i + 1, by omega, by go_num, ⟨⟨HBI.out.os, HBI.out.tape, HBI.out.output, HBI.out.size, HBI.out.block⟩⟩⟩, ?_⟩
                  simp [intOf]
                  omega
                · obtain ⟨j, hj⟩ : ∃ j, i = j + 1 := ⟨i - 1, by omega⟩
                  have hjl : j < L.length := by omega
                  obtain ⟨vf2, _, d1, _, hvf2⟩ := hla j hjl
                  obtain ⟨b2, hfb2⟩ : ∃ b : UInt8, L[j].fr = [b] := List.length_eq_one_iff.1 (HINC.out.1 L[j] (List.getElem_mem hjl))
                  have hkey : key L[j] < key L[i] := List.pairwise_iff_getElem.1 HINC.out.2 j i hjl hlt (by omega)
                  unfold key at hkey
                  rw [hfb, hfb2] at hkey
                  have hkey : b2.toNat < b.toNat := hkey
                  rw [hfb2] at hvf2
                  obtain ⟨Af2, cf2, e⟩ := hvf2.slice
                  have e : vf2 = .slice Af2 1 cf2 := e
                  subst e
                  obtain ⟨af2, e, hcf2⟩ := hvf2.rd.at (by simp)
                  subst e
                  have hb2 : wr.cell? af2 = some (.int .u8 (b2.toNat : Int)) := by
                    have z := hcf2 0 (by simp)
                    rwa [show af2.add 0 = af2 by cases af2; simp [Addr.add]] at z
                  rw [← hxr.cell] at d1
                  have hd5 : decide ((0 : Int) < (i : Int)) = true := decide_eq_true (by omega)
                  have hd5' : decide (0 < i) = true := decide_eq_true (by omega)
                  have hd6' : decide (b.toNat ≤ b2.toNat) = false := decide_eq_false (by omega)
                  have hd6 : decide ((b.toNat : Int) ≤ (b2.toNat : Int)) = false := decide_eq_false (by omega)
                  have hwj : IntKind.i64.wrap ((i : Int) - 1) = (j : Int) := by rw [IntKind.wrap_i64]; omega
                  have HJ := Aside0.mk hj
                  clear hi0 hj hxr hla hvf hcf hfb hvf2 hcf2 hfb2
                  generalize L[i] = l at *
                  generalize L[j] = l2 at *
                  go_wp2_with fail
                  go_quiet (fail)
                  go_wp2
                  refine ⟨⟨i + 1, by omega, by go_num, ⟨⟨HBI.out.os, HBI.out.tape, HBI.out.output, HBI.out.size, HBI.out.block⟩⟩⟩, ?_⟩
                  simp [intOf]
                  omega
              · obtain rfl : i = L.length := by omega
                go_wp2_with fail
                refine (known28_h _).mono ?_
                rintro e w4 ⟨rfl, hb4⟩
                have HB4 := Aside0.mk ((HB3.out.trans (HBI.out.mono HB3.out.size)).trans (hb4.mono (Nat.le_trans HB3.out.size HBI.out.size)))
                clear hb4
                go_wp2
                go_ret
                exact ⟨rfl, HB4.out⟩
  · by_cases h60 : 60 < us.length
    · have hd1 : decide ((60 : Int) < (us.length : Int)) = true := decide_eq_true (by omega)
      go_enter Try.func3, Try.ntmps3
      go_wp2_with fail
      refine (known28_h _).mono ?_
      rintro e w1 ⟨rfl, hb⟩
      have HB := Aside0.mk hb
      clear hb
      go_wp2
      go_ret
      exact ⟨rfl, HB.out⟩
    · have hd1 : decide ((60 : Int) < (us.length : Int)) = false := decide_eq_false (by omega)
      have hd2 : decide ((60 : Int) < (ds.length : Int)) = true := decide_eq_true (by omega)
      go_enter Try.func3, Try.ntmps3
      go_wp2_with fail
      refine (known28_h _).mono ?_
      rintro e w1 ⟨rfl, hb⟩
      have HB := Aside0.mk hb
      clear hb
      go_wp2
      go_ret
      exact ⟨rfl, HB.out⟩
end Go.Proofs.Ytgmbleaecfmfiaa.Given
