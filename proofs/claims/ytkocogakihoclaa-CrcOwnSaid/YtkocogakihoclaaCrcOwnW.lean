/- THE WALK OF THE LAW CrcOwn: it returns true, and nothing that was there has turned. Condition: the bytes are fewer than 2^47 - 4096. -/
import Derived.Test.YtkocogakihoclaaCrcBurstsW
import Derived.Laws.CopyOwn
import Derived.Laws.MakeOwn
import Derived.Laws.OwnMore
namespace Go.Proofs.Ytkocogakihoclaa.Given
open Go.RowKit Go.Proofs.YtkocogakihoclaaW.PrintWords Go.Proofs.YtkocogakihoclaaW.PrintLast Go.Proofs.YtkocogakihoclaaW.PrintMore Go.Proofs.Ytkocogakihoclaa.PS
theorem nums_len (k : IntKind) (l : List Int) : (nums k l).length = l.length := by simp [nums]
theorem Own_of_row {w : World} {base g : Nat} {L : List UInt8} (h : w.heap[g]? = some (.cells (nums .u8 (nB L)).toArray 5 (0, 0))) (hb : base ≤ g) (hL : L.length ≤ 9223372036854775807) (N : Nat) (hN : L.length = N) : Own w base (.slice (some ⟨g, 0, none⟩) N N) L := by
  subst hN
  have hl : (nums .u8 (nB L)).length = L.length := by rw [nums_len, nB_length]
  have := Kd.R_of_own (enc := Value.int .u8) (h1 := fun _ => rfl) (e := 5) (w := w) (base := base) (ok := fun _ => True) (v := .slice (some ⟨g, 0, none⟩) L.length L.length) (xs := nB L)
    ⟨by simp [encs, nB_length], .inr ⟨g, L.length, (nums .u8 (nB L)).toArray, by rw [nB_length], hb, h, by rw [nB_length]; exact Nat.le_refl _, by simpa [maxLen] using hL, by simp [hl], by rw [nB_length, Nat.mul_one, ← hl, List.take_length]; rfl⟩⟩ (fun _ _ => trivial)
  exact this
theorem zeros_row (w : World) (N : Nat) : (w.alloc (.cells (madeCells #[.int .u8 0] N) 5)).heap[w.heap.size]? = some (.cells (nums .u8 (nB (List.replicate N 0))).toArray 5 (0, 0)) := by
  have h2 := toList_madeCells_one (.int .u8 0) N
  have h : madeCells #[.int .u8 0] N = (nums .u8 (nB (List.replicate N 0))).toArray := by
    have : nums .u8 (nB (List.replicate N 0)) = (madeCells #[.int .u8 0] N).toList := by rw [h2]; simp [nums, nB]
    rw [this]
  rw [h]
  show (w.heap.push _)[w.heap.size]? = some _
  exact Array.getElem?_push_size
theorem splice_zeros (bs : List UInt8) : splice (nums .u8 (nB (List.replicate (bs.length + 16) 0))) 0 (nums .u8 (nB bs)) = nums .u8 (nB (bs ++ List.replicate 16 0)) := by
  simp [splice, nums, nB]
theorem Rd.cells {w : World} {A : Option Addr} {n c : Nat} {bs : List UInt8} (h : Rd w (.slice A n c) bs) : n = bs.length ∧ (0 < n → ∃ ad, A = some ad ∧ ∀ (j : Nat) v, (nums .u8 (nB bs))[j]? = some v → w.cell? (ad.add j) = some v) := by
  obtain ⟨A', c', e, hc, hr⟩ := h
  cases e
  refine ⟨rfl, fun hp => ?_⟩
  obtain ⟨ad, e, hh⟩ := (Kd.reads_of_C (enc := Value.int .u8) (d := 0) (h1 := fun _ => rfl) hr).2.2 hp
  refine ⟨ad, e, fun j v hj => ?_⟩
  have hl : j < bs.length := by
    have := (List.getElem?_eq_some_iff.1 hj).1
    rwa [nums_len, nB_length] at this
  rw [hh j hl]
  rw [← hj]
  simp [nums, nB, hl]
theorem copy_zeros {W0 w : World} {A : Option Addr} {c : Nat} {bs : List UInt8} (B0 : Below w.heap.size w W0) (hv : Rd W0 (.slice A bs.length c) bs) (hz : W0.heap[w.heap.size]? = some (.cells (nums .u8 (nB (List.replicate (bs.length + 16) 0))).toArray 5 (0, 0))) (ty : TypeId) (hl : bs.length ≤ 140737488351232) :
    ∃ W1, (Builtin.copy_ #[22, 22] ty #[.slice (some ⟨w.heap.size, 0, none⟩) bs.length (bs.length + 16), .slice A bs.length c]).run Try.prog W0 = .ok (.int .i64 (bs.length : Int)) W1 ∧ Own W1 w.heap.size (.slice (some ⟨w.heap.size, 0, none⟩) (bs.length + 16) (bs.length + 16)) (bs ++ List.replicate 16 0) ∧ Below w.heap.size w W1 := by
  have hnl : (nums .u8 (nB bs)).length = bs.length := by rw [nums_len, nB_length]
  have hzl : (nums .u8 (nB (List.replicate (bs.length + 16) 0))).length = bs.length + 16 := by rw [nums_len, nB_length, List.length_replicate]
  by_cases h0 : bs.length = 0
  · obtain rfl : bs = [] := List.eq_nil_of_length_eq_zero h0
    exact ⟨W0, run_copy_none (P := Try.prog) W0 _ _ ty 5 _ A _ _ _ c (by kernel_rfl) (by kernel_rfl) (by simp), Own_of_row hz (Nat.le_refl _) (by simp) 16 (by simp), B0⟩
  · obtain ⟨ad, rfl, hc⟩ := hv.cells.2 (by omega)
    have := run_copy_row (P := Try.prog) W0 22 22 ty 5 w.heap.size 0 bs.length (bs.length + 16) ad bs.length c _ 5 (nums .u8 (nB bs)) (by kernel_rfl) (by kernel_rfl) hz (by rw [hnl]; exact (Nat.min_self _).symm) hc (by rw [hnl]; simp only [List.size_toArray]; rw [hzl]; omega)
      (by intro v hv; simp only [nums, List.mem_map] at hv; obtain ⟨_, _, rfl⟩ := hv; rfl)
    refine ⟨_, (by rw [this, hnl]; rfl), Own_of_row ?_ (Nat.le_refl _) (by simp; omega) _ (by simp), below_setRow B0 (Nat.le_refl _) _⟩
    rw [setRow_heap W0 _ _ _ _ _ hz]
    have := splice_zeros bs
    unfold splice at this
    rw [← this]
    simp [hnl]
theorem Own.head {w : World} {b g N : Nat} {L : List UInt8} (h : Own w b (.slice (some ⟨g, 0, none⟩) N N) L) (hL : L.length = N) (n : Nat) (hn : n ≤ N) : Rd w (.slice (some ⟨g, 0, none⟩) n N) (L.take n) := by
  subst hL
  exact h.rd.take n hn
set_option maxRecDepth 100000 in
set_option maxHeartbeats 2000000 in
theorem CrcOwn_walk {w : World} {v : Value} {bs : List UInt8} (hv : Rd w v bs) (hl : bs.length ≤ 140737488351232) :
    Calls Try.prog 9 #[v] w fun e w' => e = .returned (.bool true) ∧ Below w.heap.size w w' := by
  have HV := Aside0.mk hv
  obtain ⟨A, c, rfl, _, _⟩ := hv
  have hmk : ∀ W : World, (Instr.makeSlice 22 (.int .i64 (bs.length : Int)) (.int .i64 ((bs.length : Int) + 16))).run Try.prog W = .ok (.slice (some ⟨W.heap.size, 0, none⟩) bs.length (bs.length + 16)) (W.alloc (.cells (madeCells #[.int .u8 0] (bs.length + 16)) 5)) := by
    intro W
    have hz : (Try.prog.info? 5).map (fun i => (i.zero, i.size, i.bytes)) = some (some (.int .u8 0), 1, 1) := by kernel_rfl
    obtain ⟨i, hi, hzz⟩ := Option.map_eq_some_iff.1 hz
    simp only [Prod.mk.injEq] at hzz
    obtain ⟨h1, h2, h3⟩ := hzz
    have := run_make (P := Try.prog) W 22 5 i (.int .u8 0) Try.underlying22 hi h1 .i64 .i64 (bs.length : Int) ((bs.length : Int) + 16) (by omega) (by omega) (by rw [h3]; omega) (by omega)
    rw [h2] at this
    have e : ((bs.length : Int) + 16).toNat = bs.length + 16 := by omega
    rw [e, Int.toNat_natCast, Nat.mul_one] at this
    exact this
  go_enter Try.func9, Try.ntmps9
  go_wp2_with fail
  clear hmk
  have hz0 := zeros_row w (bs.length + 16)
  generalize hW0 : World.alloc _ _ = W0 at *
  have B0 : Below w.heap.size w W0 := by rw [← hW0]; exact (Below.refl _ _).alloc (Nat.le_refl _) _
  have S0 : W0.heap.size = w.heap.size + 1 := by rw [← hW0]; simp
  have HZ := Aside0.mk hz0
  have B0 := Aside0.mk B0
  clear hW0 hz0
  obtain ⟨W1, hcp, ho1, hb1⟩ := copy_zeros B0.out (HV.out.below B0.out) HZ.out 3 hl
  have HO1 := Aside0.mk ho1
  have HB1 := Aside0.mk hb1
  clear ho1 hb1 HZ
  go_wp2_with fail
  rw [hcp]
  go_wp2_with fail
  clear hcp
  have hx : (bs ++ List.replicate 16 (0 : UInt8)).length = bs.length + 16 := by simp
  have hx2 : (bs ++ List.replicate 16 (0 : UInt8)).take bs.length = bs := by simp
  have HX1 := Aside0.mk (show Rd W1 (.slice (some ⟨w.heap.size, 0, none⟩) bs.length (bs.length + 16)) bs by have := HO1.out.head hx bs.length (by omega); rwa [hx2] at this)
  clear hx hx2
  refine (seal_h HX1.out (by omega)).mono ?_
  rintro e w2 ⟨v2, rfl, ho2, hb2⟩
  have hsz : w.heap.size < W1.heap.size := by
    obtain ⟨cells, hc⟩ := Kd.R_typed HO1.out w.heap.size rfl
    exact (Array.getElem?_eq_some_iff.1 hc).1
  have HO2 := Aside0.mk ho2
  have HX2 := Aside0.mk (HO1.out.below hb2)
  have HB2 := Aside0.mk (HB1.out.trans (hb2.mono (by omega)))
  clear ho2 hb2
  go_wp2_with fail
  generalize hn : bs.length = n at *
  go_loopw [5] (fun k wr => ∃ (j : Nat) (L : List UInt8), j ≤ n ∧ k = .int .i64 j ∧ L.length = n + 16 ∧ Aside0 (L.drop n = List.replicate 16 0) ∧ Aside0 (Own wr w.heap.size (.slice (some ⟨w.heap.size, 0, none⟩) (n + 16) (n + 16)) L) ∧ Aside0 (Own wr W1.heap.size v2 (sealB bs)) ∧ Aside0 (Below w.heap.size w wr)) (fun k _ => n - (intOf k).toNat)
  case atStart => exact ⟨0, bs ++ List.replicate 16 0, by omega, rfl, by simp [hn], ⟨by rw [← hn]; simp⟩, HX2, HO2, HB2⟩
  case round =>
    obtain ⟨j, L, hj, rfl, hL, HD, HO, HS, HB⟩ := hrel
    by_cases hlt : j < n
    · have hO := HO.out
      have e0 : (Value.slice (some ⟨w.heap.size, 0, none⟩) (n + 16) (n + 16)) = .slice (some ⟨w.heap.size, 0, none⟩) L.length (n + 16) := by rw [hL]
      rw [e0] at hO
      have hjl : j < L.length := by omega
      have hce := hO.cell j hjl
      have hfz := hO.free j
      have hput := hO.put j (L[j] + 1)
      rw [← e0] at hput
      have HPUT := Aside0.mk hput
      have hadd : (((L[j] + 1 : UInt8).toNat : Nat) : Int) = ((L[j].toNat : Int) + 1) % 256 := by rw [UInt8.toNat_add]; simp
      have HA := Aside0.mk hadd
      have hlt8 := L[j].toNat_lt
      have hD2 : (L.set j (L[j] + 1)).drop n = List.replicate 16 0 := by rw [List.drop_set_of_lt hlt]; exact HD.out
      have HD2 := Aside0.mk hD2
      clear hO e0 hput hadd hD2
      generalize hb : L[j].toNat = b at *
      go_wp2_with fail
      refine ⟨⟨j + 1, L.set j (L[j] + 1), by omega, by go_num, by rw [List.length_set]; exact hL, HD2, ⟨by rw [← HA.out]; exact HPUT.out⟩, ⟨HS.out.far (by show w.heap.size < W1.heap.size; exact hsz) _⟩, ⟨HB.out.setCell (p := ⟨w.heap.size, j, none⟩) (Nat.le_refl _) _⟩⟩, ?_⟩
      simp [intOf]
      omega
    · obtain rfl : j = n := by omega
      have h0 : ∀ i, i < 16 → wr.cell? ⟨w.heap.size, j + i, none⟩ = some (.int .u8 0) := by
        intro i hi
        have hO := HO.out
        have e0 : (Value.slice (some ⟨w.heap.size, 0, none⟩) (j + 16) (j + 16)) = .slice (some ⟨w.heap.size, 0, none⟩) L.length (j + 16) := by rw [hL]
        rw [e0] at hO
        have h1 : L[j + i]? = some 0 := by
          have h2 : (L.drop j)[i]? = L[j + i]? := by rw [List.getElem?_drop]
          rw [← h2, HD.out, List.getElem?_replicate, if_pos hi]
        have hji : j + i < L.length := by omega
        rw [hO.cell (j + i) hji]
        rw [List.getElem?_eq_getElem hji] at h1
        rw [Option.some.inj h1]
        rfl
      have H0 := Aside0.mk h0
      clear h0 HO HD
      go_wp2_with fail
      go_loopw [44] (fun k w3 => ∃ i : Nat, i ≤ 16 ∧ k = .int .i64 i ∧ w3 = wr) (fun k _ => 16 - (intOf k).toNat)
      case atStart => exact ⟨0, by omega, rfl, rfl⟩
      case round =>
        obtain ⟨i, hi, rfl, rfl⟩ := hrel
        by_cases hi16 : i < 16
        · have hc := H0.out i hi16
          go_wp2_with fail
          refine ⟨⟨i + 1, by omega, by go_num, trivial⟩, ?_⟩
          simp [intOf]
          omega
        · obtain rfl : i = 16 := by omega
          clear H0
          have hsl := sealB_length bs
          have HSL := Aside0.mk hsl
          clear hsl
          go_wp2_with fail
          refine (own_h HS.out.rd (by rw [HSL.out]; omega)).mono ?_
          rintro e w4 ⟨v4, rfl, ho4, hb4⟩
          have HS4 := Aside0.mk (HS.out.below hb4).rd
          obtain ⟨g, cap, rfl, hg⟩ := Own.form ho4 (by rw [HSL.out]; omega)
          have HO4 := Aside0.mk ho4
          have HB4 := Aside0.mk hb4
          clear ho4 hb4
          go_wp2_with fail
          refine (open_h HO4.out.rd (by rw [HSL.out]; omega)).mono ?_
          rintro e w5 ⟨v5, rfl, ho5, hb5⟩
          have hgl : g < w4.heap.size := by
            obtain ⟨cells, hc⟩ := Kd.R_typed HO4.out g rfl
            exact (Array.getElem?_eq_some_iff.1 hc).1
          have hoL : openL (sealB bs) = bs := by unfold openL; rw [openB_seal]; rfl
          rw [hoL] at ho5
          rw [openB_seal]
          clear hoL
          have HO5 := Aside0.mk ho5
          have HX5 := Aside0.mk (HO4.out.below hb5)
          have HB5 := Aside0.mk (chain HB4.out hb5)
          clear ho5 hb5
          go_wp2_with fail
          generalize hm : (sealB bs).length = m at *
          have hm4 : m = j + 4 := by rw [HSL.out, hn]
          have hgb : wr.heap.size ≤ g := hg
          go_loopw [11] (fun k w6 => ∃ (i : Nat) (L : List UInt8), i ≤ m ∧ k = .int .i64 i ∧ L.length = m ∧ Aside0 (Own w6 wr.heap.size (.slice (some ⟨g, 0, none⟩) m cap) L) ∧ Aside0 (Own w6 w4.heap.size v5 bs) ∧ Aside0 (Below wr.heap.size wr w6)) (fun k _ => m - (intOf k).toNat)
          case atStart => exact ⟨0, sealB bs, by omega, rfl, hm, HX5, HO5, HB5⟩
          case round =>
            obtain ⟨i, L, hi, rfl, hL, HO, HO5, HB6⟩ := hrel
            by_cases hlt : i < m
            · have hO := HO.out
              have e0 : (Value.slice (some ⟨g, 0, none⟩) m cap) = .slice (some ⟨g, 0, none⟩) L.length cap := by rw [hL]
              rw [e0] at hO
              have hjl : i < L.length := by omega
              have hce := hO.cell i hjl
              have hfz := hO.free i
              have hput := hO.put i (L[i] + 1)
              rw [← e0] at hput
              have HPUT := Aside0.mk hput
              have hadd : (((L[i] + 1 : UInt8).toNat : Nat) : Int) = ((L[i].toNat : Int) + 1) % 256 := by rw [UInt8.toNat_add]; simp
              have HA := Aside0.mk hadd
              have hlt8 := L[i].toNat_lt
              clear hO e0 hput hadd
              generalize hb : L[i].toNat = b at *
              go_wp2_with fail
              refine ⟨⟨i + 1, L.set i (L[i] + 1), by omega, by go_num, by rw [List.length_set]; exact hL, ⟨by rw [← HA.out]; exact HPUT.out⟩, ⟨HO5.out.far (by show g < w4.heap.size; exact hgl) _⟩, ⟨HB6.out.setCell (p := ⟨g, i, none⟩) hgb _⟩⟩, ?_⟩
              simp [intOf]
              omega
            · obtain rfl : i = m := by omega
              have HSw := Aside0.mk (HS.out.below HB6.out).rd
              have HBw := Aside0.mk (HB.out.trans (HB6.out.mono (HB.out.size)))
              go_wp2_with fail
              refine (refSeal_h (HV.out.below HBw.out) (by omega)).mono ?_
              rintro e w7 ⟨v7, rfl, ho7, hb7⟩
              have HO7 := Aside0.mk ho7.rd
              have HB7 := Aside0.mk hb7
              clear ho7 hb7
              go_wp2_with fail
              refine (same_h (HSw.out.below HB7.out) HO7.out).mono ?_
              rintro e w8 ⟨rfl, hd8⟩
              have HB8 := Aside0.mk (chain HB7.out hd8.below)
              clear hd8
              rw [decide_eq_true rfl]
              go_wp2_with fail
              refine (same_h (HO5.out.below HB8.out).rd (HV.out.below (chain HBw.out HB8.out))).mono ?_
              rintro e w9 ⟨rfl, hd9⟩
              have HB9 := Aside0.mk (chain HB8.out hd9.below)
              clear hd9
              rw [decide_eq_true rfl]
              go_wp2_with fail
              refine (known_h w9).mono ?_
              rintro e w10 ⟨rfl, hb10⟩
              have HB10 := Aside0.mk (chain HB9.out hb10)
              clear hb10
              go_wp2
              go_ret
              exact ⟨rfl, chain HBw.out HB10.out⟩
end Go.Proofs.Ytkocogakihoclaa.Given
