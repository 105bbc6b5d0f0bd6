/- THE WALK OF THE LAW CrcBursts: it returns true, and nothing that was there has turned. Condition: the bytes are fewer than 2^47 - 4096. -/
import Derived.Test.YtkocogakihoclaaCrcSealsW
import Derived.Test.YtkocogakihoclaaCrcBurst
namespace Go.Proofs.Ytkocogakihoclaa.Given
open Go.RowKit Go.Proofs.YtkocogakihoclaaW.PrintWords Go.Proofs.YtkocogakihoclaaW.PrintLast Go.Proofs.YtkocogakihoclaaW.PrintMore Go.Proofs.Ytkocogakihoclaa.PS
theorem Own.form {w : World} {base : Nat} {v : Value} {bs : List UInt8} (h : Own w base v bs) (hp : 0 < bs.length) : ∃ g cap, v = .slice (some ⟨g, 0, none⟩) bs.length cap ∧ base ≤ g := by
  obtain ⟨g, cap, e, hb, _⟩ := Kd.R_form h (by rw [nB_length]; exact hp)
  rw [nB_length] at e
  exact ⟨g, cap, e, hb⟩
theorem Own.cell {w : World} {base g cap : Nat} {bs : List UInt8} (h : Own w base (.slice (some ⟨g, 0, none⟩) bs.length cap) bs) (j : Nat) (hj : j < bs.length) : w.cell? ⟨g, j, none⟩ = some (.int .u8 (bs[j].toNat : Int)) := by
  have h' : Kd.R (Kd.scalar (Value.int .u8) (fun _ => rfl)) 5 w base (fun _ => True) (.slice (some ⟨g, 0, none⟩) (nB bs).length cap) (nB bs) := by
    rw [nB_length]
    exact h
  have := (Kd.R_cell (0 : Int) h' (j : Int) (by omega) (by rw [nB_length]; omega)).1
  rw [Int.toNat_natCast] at this
  rw [this]
  simp [rdOf, nB, hj]
theorem Own.free {w : World} {base g cap n : Nat} {bs : List UInt8} (h : Own w base (.slice (some ⟨g, 0, none⟩) n cap) bs) (j : Nat) : w.frozen? ⟨g, j, none⟩ = false := by
  obtain ⟨cells, hc⟩ := Kd.R_typed h g rfl
  simp only [World.frozen?, hc]
  simp
theorem Own.put {w : World} {base g cap : Nat} {bs : List UInt8} (h : Own w base (.slice (some ⟨g, 0, none⟩) bs.length cap) bs) (j : Nat) (x : UInt8) : Own (w.setCell ⟨g, j, none⟩ (.int .u8 (x.toNat : Int))) base (.slice (some ⟨g, 0, none⟩) bs.length cap) (bs.set j x) := by
  have h' : Kd.R (Kd.scalar (Value.int .u8) (fun _ => rfl)) 5 w base (fun _ => True) (.slice (some ⟨g, 0, none⟩) (nB bs).length cap) (nB bs) := by
    rw [nB_length]
    exact h
  have := (Kd.R_put h' (j : Int) (x.toNat : Int)).1
  rw [Int.toNat_natCast, nB_length] at this
  have e : nB (bs.set j x) = (nB bs).set j (x.toNat : Int) := by simp [nB, List.map_set]
  unfold Own
  rw [e]
  exact this
theorem Own.below {w w1 : World} {base : Nat} {v : Value} {bs : List UInt8} (h : Own w base v bs) (hb : Below w.heap.size w w1) : Own w1 base v bs := Kd.R_below h hb
theorem Own.far {w : World} {base : Nat} {v : Value} {bs : List UInt8} (h : Own w base v bs) {p : Addr} (hp : p.block < base) (u : Value) : Own (w.setCell p u) base v bs :=
  Kd.R_mono (Kd.R_far (Kd.R_mono (Kd.R_bound h) (ok' := fun k => base ≤ k) (fun k hk => hk.2.1)) (fun k hk => by omega) u) (fun _ _ => trivial)
set_option maxRecDepth 100000 in
set_option maxHeartbeats 2000000 in
theorem CrcBursts_walk {w : World} {v : Value} {bs : List UInt8} (hv : Rd w v bs) (hl : bs.length ≤ 140737488351232) (at_ : Int) (hat : -9223372036854775808 ≤ at_ ∧ at_ ≤ 9223372036854775807) (m : Nat → UInt8) :
    Calls Try.prog 8 #[v, .int .i64 at_, .agg #[.int .u8 (m 0).toNat, .int .u8 (m 1).toNat, .int .u8 (m 2).toNat, .int .u8 (m 3).toNat]] w fun e w' => e = .returned (.bool true) ∧ Below w.heap.size w w' := by
  have HV := Aside0.mk hv
  obtain ⟨A, c, rfl, _, _⟩ := hv
  have hA : ∀ wr : World, Below (w.heap.size + 1) (w.alloc (.cells #[.int .u8 (m 0).toNat, .int .u8 (m 1).toNat, .int .u8 (m 2).toNat, .int .u8 (m 3).toNat] 34)) wr → ∀ j, j < 4 → wr.cell? ⟨w.heap.size, j, none⟩ = some (.int .u8 (m j).toNat) := by
    intro wr hb j hj
    rw [hb.cell (p := ⟨w.heap.size, j, none⟩) (by simp), World.cell?_alloc_new]
    match j, hj with
    | 0, _ => rfl
    | 1, _ => rfl
    | 2, _ => rfl
    | 3, _ => rfl
  have HA := Aside0.mk hA
  have hsl := sealB_length bs
  have HSL := Aside0.mk hsl
  clear hA hsl
  go_enter Try.func8, Try.ntmps8
  go_wp2_with fail
  generalize hW0 : World.alloc _ _ = W0
  have B0 : Below w.heap.size w W0 := by rw [← hW0]; exact (Below.refl _ _).alloc (Nat.le_refl _) _
  have S0 : W0.heap.size = w.heap.size + 1 := by rw [← hW0]; simp
  have HW0 := Aside0.mk hW0
  have B0 := Aside0.mk B0
  clear hW0
  refine (own_h (HV.out.below B0.out) (by omega)).mono ?_
  rintro e w1 ⟨v1, rfl, ho, hb⟩
  have H1 := Aside0.mk ho.rd
  have B1 := Aside0.mk hb
  clear ho hb
  go_wp2_with fail
  refine (seal_h H1.out (by omega)).mono ?_
  rintro e w2 ⟨v2, rfl, ho, hb⟩
  have hbase : W0.heap.size ≤ w1.heap.size := B1.out.size
  obtain ⟨g, cap, rfl, hg⟩ := Own.form ho (by rw [HSL.out]; omega)
  have H2 := Aside0.mk (show Own w2 (w.heap.size + 1) _ (sealB bs) from Kd.R_lower ho (by omega))
  have B2 := Aside0.mk (chain B1.out hb)
  clear ho hb
  have hlen : (sealB bs).length = bs.length + 4 := HSL.out
  generalize hs : sealB bs = s at *
  have HS := Aside0.mk hs
  clear hs
  have hge : w.heap.size + 1 ≤ g := by omega
  have hne : ((s.length : Int) == (bs.length : Int) + 4) = true := by rw [hlen]; simp
  have hne2 : ((s.length : Int) != (bs.length : Int) + 4) = false := by rw [hlen]; simp
  have B2' : Below (w.heap.size + 1) W0 w2 := by have := B2.out; rwa [S0] at this
  have B2' := Aside0.mk B2'
  clear HSL
  have hL : 0 < s.length := by omega
  have hL1 : s.length ≤ bs.length + 4 := by omega
  have hL2 : bs.length + 4 ≤ s.length := by omega
  clear hlen
  by_cases ha : 0 ≤ at_
  · obtain ⟨a, rfl⟩ := Int.eq_ofNat_of_zero_le ha
    clear ha
    obtain ⟨p, hp, hpl⟩ : ∃ p, a % s.length = p ∧ p < s.length := ⟨_, rfl, Nat.mod_lt _ hL⟩
    have hp' : (a : Int) % (s.length : Int) = (p : Int) := by rw [← hp]; simp
    have hp2 : Int.tmod (a : Int) (s.length : Int) = (p : Int) := by rw [Int.tmod_eq_emod_of_nonneg (by omega)]; exact hp'
    have hz : ((s.length : Int) == 0) = false := beq_eq_false_iff_ne.mpr (by omega)
    have HP1 := Aside0.mk hp'
    clear hp hp'
    go_wp2_with fail
    go_loopw [8, 9] (fun c k wr => ∃ j : Nat, j ≤ 4 ∧ k = .int .i64 j ∧ c = .bool (chg s.length p j m) ∧ Aside0 (Own wr (w.heap.size + 1) (.slice (some ⟨g, 0, none⟩) s.length cap) (burst s p j m)) ∧ Aside0 (Below (w.heap.size + 1) W0 wr)) (fun _ k _ => 4 - (intOf k).toNat)
    case atStart => exact ⟨0, by omega, rfl, by rw [chg_zero], by rw [burst_zero]; exact H2, B2'⟩
    case round =>
      obtain ⟨j, hj, rfl, rfl, HO, HB⟩ := hrel
      by_cases hlt : j < 4
      · have hcell : wr.cell? ⟨w.heap.size, j, none⟩ = some (.int .u8 (m j).toNat) := HA.out wr (by rw [HW0.out]; exact HB.out) j hlt
        have hsucc := chg_succ s.length p j m
        have hx := burst_length s p j m
        have hcl := fun h : p + j < s.length => HO.out
        by_cases hin : p + j < s.length
        · have hi1 : decide ((p : Int) + (j : Int) < (s.length : Int)) = true := decide_eq_true (by omega)
          by_cases hm : (m j).toNat = 0
          · have hm1 : (((m j).toNat : Int) != 0) = false := by simp [hm]
            have hmz : m j = 0 := zero_of_toNat _ hm
            have hchg : chg s.length p (j + 1) m = chg s.length p j m := by rw [hsucc, hmz]; simp
            have hb := burst_same s p j m (.inr hmz)
            have HC := Aside0.mk hchg
            have HBU := Aside0.mk hb
            clear hsucc hchg hb hmz hm hx hcl
            go_wp2_with fail
            go_roundw
            case rel => exact ⟨j + 1, by omega, by go_num, by rw [HC.out], by rw [HBU.out]; exact HO, HB⟩
            case measure => simp [intOf]; omega
          · have hm1 : (((m j).toNat : Int) != 0) = true := by simp [hm]
            have hmz : m j ≠ 0 := fun e => hm (by rw [e]; rfl)
            have hchg : chg s.length p (j + 1) m = true := by rw [hsucc]; simp [hmz, hin]
            have hb := burst_set s p j m hin
            have HO' := HO.out
            have e0 : (Value.slice (some ⟨g, 0, none⟩) s.length cap) = .slice (some ⟨g, 0, none⟩) (burst s p j m).length cap := by rw [hx]
            rw [e0] at HO'
            have hce := HO'.cell (p + j) (by rw [hx]; exact hin)
            have hat2 := burst_at s p j m hin
            rw [List.getElem?_eq_getElem (by rw [hx]; exact hin)] at hat2
            rw [Option.some.inj hat2] at hce
            have hfz := HO'.free (p + j)
            have hput := HO'.put (p + j) (s[p + j] ^^^ m j)
            rw [← e0, ← hb] at hput
            have hxor : bits .xor .u8 (s[p + j].toNat : Int) ((m j).toNat : Int) = (((s[p + j] ^^^ m j).toNat : Nat) : Int) := by
              rw [u8_xor_nat _ _ (s[p + j].toNat_lt) ((m j).toNat_lt), UInt8.toNat_xor]
            have HC := Aside0.mk hchg
            have HPUT := Aside0.mk hput
            have HX := Aside0.mk hxor
            clear hsucc hchg hb hmz hm hx hcl hat2 HO' e0 hput hxor
            have hset : ∀ u, (wr.setCell ⟨g, p + j, none⟩ u).heap.size = wr.heap.size := fun u => by simp [World.setCell]
            have hidx : ((p : Int) + (j : Int)).toNat = p + j := by omega
            go_wp2_with fail
            go_region
            all_goals go_wp2_with fail
            all_goals go_roundw
            all_goals first
              | (case rel => exact ⟨j + 1, by omega, by go_num, by rw [HC.out], ⟨by rw [HX.out]; exact Own.below HPUT.out (below_drew (Below.refl _ _))⟩, ⟨(HB.out.setCell (p := ⟨g, p + j, none⟩) hge _).drew⟩⟩)
              | (case measure => simp [intOf]; omega)
        · have hi1 : decide ((p : Int) + (j : Int) < (s.length : Int)) = false := decide_eq_false (by omega)
          have hchg : chg s.length p (j + 1) m = chg s.length p j m := by rw [hsucc]; simp [hin]
          have hb := burst_same s p j m (.inl (by omega))
          have HC := Aside0.mk hchg
          have HBU := Aside0.mk hb
          clear hsucc hchg hb hx hcl
          go_wp2_with fail
          go_roundw
          case rel => exact ⟨j + 1, by omega, by go_num, by rw [HC.out], by rw [HBU.out]; exact HO, HB⟩
          case measure => simp [intOf]; omega
      · obtain rfl : j = 4 := by omega
        have hchg : ∀ x, x = chg s.length p 4 m → (openB (burst s p 4 m)).isSome = !x := fun x e => by rw [e, ← HS.out]; exact burst_open bs p m
        have HCH := Aside0.mk hchg
        have hbl := burst_length s p 4 m
        clear hchg
        generalize hb : burst s p 4 m = S at *
        have hS1 : S.length ≤ bs.length + 4 := by omega
        have HBL := Aside0.mk hbl
        clear hbl hb
        have HR := Aside0.mk (show Rd wr (.slice (some ⟨g, 0, none⟩) s.length cap) S from HO.out.rd)
        generalize chg s.length p 4 m = q at *
        have HQ := Aside0.mk (HCH.out q rfl)
        clear HCH
        go_wp2_with fail
        refine (open_h HR.out (by omega)).mono ?_
        rintro e w3 ⟨v3, rfl, ho3, hb3⟩
        have HB3 := Aside0.mk hb3
        clear ho3 hb3
        rw [HQ.out]
        go_wp2_with fail
        refine (known_h w3).mono ?_
        rintro e w4 ⟨rfl, hb4⟩
        have HB4 := Aside0.mk (chain HB3.out hb4)
        clear hb4
        go_wp2
        go_ret
        exact ⟨rfl, B0.out.trans ((HB.out.mono (by omega)).trans (HB4.out.mono (by have := HB.out.size; omega)))⟩
  · have hd : decide (0 ≤ at_) = false := decide_eq_false ha
    have hz : ((s.length : Int) == 0) = false := beq_eq_false_iff_ne.mpr (by omega)
    go_wp2_with fail
    go_loopw [8, 9] (fun c k wr => ∃ j : Nat, j ≤ 4 ∧ k = .int .i64 j ∧ c = .bool false ∧ Aside0 (Own wr (w.heap.size + 1) (.slice (some ⟨g, 0, none⟩) s.length cap) s) ∧ Aside0 (Below (w.heap.size + 1) W0 wr)) (fun _ k _ => 4 - (intOf k).toNat)
    case atStart => exact ⟨0, by omega, rfl, rfl, H2, B2'⟩
    case round =>
      obtain ⟨j, hj, rfl, rfl, HO, HB⟩ := hrel
      by_cases hlt : j < 4
      · go_wp2_with fail
        go_roundw
        case rel => exact ⟨j + 1, by omega, by go_num, by first | rfl | trivial, HO, HB⟩
        case measure => simp [intOf]; omega
      · obtain rfl : j = 4 := by omega
        have HR := Aside0.mk (show Rd wr (.slice (some ⟨g, 0, none⟩) s.length cap) s from HO.out.rd)
        have HQ := Aside0.mk (show (openB s).isSome = true by rw [← HS.out, openB_seal]; rfl)
        go_wp2_with fail
        refine (open_h HR.out (by omega)).mono ?_
        rintro e w3 ⟨v3, rfl, ho3, hb3⟩
        have HB3 := Aside0.mk hb3
        clear ho3 hb3
        rw [HQ.out]
        go_wp2_with fail
        refine (known_h w3).mono ?_
        rintro e w4 ⟨rfl, hb4⟩
        have HB4 := Aside0.mk (chain HB3.out hb4)
        clear hb4
        go_wp2
        go_ret
        exact ⟨rfl, B0.out.trans ((HB.out.mono (by omega)).trans (HB4.out.mono (by have := HB.out.size; omega)))⟩
end Go.Proofs.Ytkocogakihoclaa.Given
