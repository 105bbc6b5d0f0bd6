/- THE CONTRACTS OF frame AND OF THE DOCUMENT's frame, of bytes: for the laws that are walked by hand. No condition beyond the sizes that each contract says. -/
import Derived.Test.YtgmbleaecfmfiaaCrcHandF
import Derived.Test.YtgmbleaecfmfiaaPSx1
import Derived.Deep.RegionWith
namespace Go.Proofs.Ytgmbleaecfmfiaa.Given
open Go.RowKit Go.Proofs.YtgmbleaecfmfiaaW.PrintWords Go.Proofs.YtgmbleaecfmfiaaW.PrintLast Go.Proofs.YtgmbleaecfmfiaaW.PrintMore Go.Proofs.Ytgmbleaecfmfiaa.PS
theorem Own.cell {w : World} {base g cap : Nat} {bs : List UInt8} (h : Own w base (.slice (some ⟨g, 0, none⟩) bs.length cap) bs) (j : Nat) (hj : j < bs.length) : w.cell? ⟨g, j, none⟩ = some (.int .u8 (bs[j].toNat : Int)) := by
  have h' : Kd.R (Kd.scalar (Value.int .u8) (fun _ => rfl)) 5 w base (fun _ => True) (.slice (some ⟨g, 0, none⟩) (nB bs).length cap) (nB bs) := by
    rw [nB_length]
    exact h
  have := (Kd.R_cell (0 : Int) h' (j : Int) (by omega) (by rw [nB_length]; omega)).1
  rw [Int.toNat_natCast] at this
  rw [this]
  simp [rdOf, nB, hj]
theorem Own.form {w : World} {base : Nat} {v : Value} {bs : List UInt8} (h : Own w base v bs) (hp : 0 < bs.length) : ∃ g cap, v = .slice (some ⟨g, 0, none⟩) bs.length cap ∧ base ≤ g := by
  obtain ⟨g, cap, e, hb, _⟩ := Kd.R_form h (by rw [nB_length]; exact hp)
  rw [nB_length] at e
  exact ⟨g, cap, e, hb⟩
theorem Own.free {w : World} {base g cap n : Nat} {bs : List UInt8} (h : Own w base (.slice (some ⟨g, 0, none⟩) n cap) bs) (j : Nat) : w.frozen? ⟨g, j, none⟩ = false := by
  obtain ⟨cells, hc⟩ := Kd.R_typed h g rfl
  simp only [World.frozen?, hc]
  simp
theorem Own.put {w : World} {base g cap : Nat} {bs : List UInt8} (h : Own w base (.slice (some ⟨g, 0, none⟩) bs.length cap) bs) (j : Nat) (x : UInt8) : Own (w.setCell ⟨g, j, none⟩ (.int .u8 (x.toNat : Int))) base (.slice (some ⟨g, 0, none⟩) bs.length cap) (bs.set j x) := by
  have h' : Kd.R (Kd.scalar (Value.int .u8) (fun _ => rfl)) 5 w base (fun _ => True) (.slice (some ⟨g, 0, none⟩) (nB bs).length cap) (nB bs) := by
    rw [nB_length]
    exact h
  have := (Kd.R_put h' (j : Int) (x.toNat : Int)).1
  rw [Int.toNat_natCast, nB_length] at this
  have e : nB (bs.set j x) = (nB bs).set j (x.toNat : Int) := by simp [nB, List.map_set]
  unfold Own
  rw [e]
  exact this
theorem Own.below {w w1 : World} {base : Nat} {v : Value} {bs : List UInt8} (h : Own w base v bs) (hb : Below w.heap.size w w1) : Own w1 base v bs := Kd.R_below h hb
theorem Own.far {w : World} {base : Nat} {v : Value} {bs : List UInt8} (h : Own w base v bs) {p : Addr} (hp : p.block < base) (u : Value) : Own (w.setCell p u) base v bs :=
  Kd.R_mono (Kd.R_far (Kd.R_mono (Kd.R_bound h) (ok' := fun k => base ≤ k) (fun k hk => hk.2.1)) (fun k hk => by omega) u) (fun _ _ => trivial)
theorem Own.lower {w : World} {base base1 : Nat} {v : Value} {bs : List UInt8} (h : Own w base v bs) (hb : base1 ≤ base) : Own w base1 v bs := Kd.R_lower h hb
theorem Own.nil (w : World) (base : Nat) : Own w base (.slice none 0 0) [] := Kd.R_nil _ _ _ _ _
theorem Own.lt {w : World} {base g n cap : Nat} {bs : List UInt8} (h : Own w base (.slice (some ⟨g, 0, none⟩) n cap) bs) : g < w.heap.size := by
  obtain ⟨cells, hc⟩ := Kd.R_typed h g rfl
  exact (Array.getElem?_eq_some_iff.1 hc).1
theorem Rd.empty (w : World) (A : Option Addr) (c : Nat) : Rd w (.slice A 0 c) [] := ⟨A, c, rfl, Nat.zero_le _, ⟨rfl, by simp, fun h => absurd h (Nat.lt_irrefl 0)⟩⟩
/-- the cells of what reads as bytes -/
theorem Rd.at {w : World} {A : Option Addr} {n c : Nat} {bs : List UInt8} (h : Rd w (.slice A n c) bs) (hp : 0 < bs.length) : ∃ ad, A = some ad ∧ ∀ (j : Nat) (hj : j < bs.length), w.cell? (ad.add j) = some (.int .u8 (bs[j].toNat : Int)) := by
  obtain ⟨A', c', e, hc, hr⟩ := h
  cases e
  obtain ⟨ad, e, hh⟩ := (Kd.reads_of_C (enc := Value.int .u8) (d := 0) (h1 := fun _ => rfl) hr).2.2 hp
  refine ⟨ad, e, fun j hj => ?_⟩
  rw [hh j hj]
  simp [nB, hj]
/-- a part of what reads as bytes, from 'm' on -/
theorem Rd.drop {w : World} {ad : Addr} {c : Nat} {bs : List UInt8} (h : Rd w (.slice (some ad) bs.length c) bs) (m : Nat) (hm : m ≤ bs.length) (a2 : Addr) (ha : ∀ j, a2.add j = ad.add (m + j)) : Rd w (.slice (some a2) (bs.length - m) (c - m)) (bs.drop m) := by
  obtain ⟨A', c', e, hc, hr⟩ := h
  cases e
  have hl : (bs.drop m).length = bs.length - m := List.length_drop
  refine ⟨_, _, by rw [hl], by omega, ?_⟩
  obtain ⟨h1, h2, h3⟩ := hr
  rw [hl]
  refine ⟨by rw [nB_length, hl], by omega, fun hp => ⟨a2, rfl, fun j p hj => ?_⟩⟩
  obtain ⟨ad', e1, e2⟩ := h3 (by omega)
  cases e1
  have e3 : (nB (bs.drop m))[j]? = (nB bs)[m + j]? := by simp [nB, List.getElem?_drop]
  rw [e3] at hj
  obtain ⟨cc, i1, i2, i3⟩ := e2 _ p hj
  refine ⟨cc, i1, i2, ?_⟩
  intro i u hu
  rw [← i3 i u hu]
  show w.cell? (a2.add (j * 1 + i)) = w.cell? (ad.add ((m + j) * 1 + i))
  rw [ha]
  congr 2
  omega
theorem clone_h {w : World} {v : Value} {bs : List UInt8} (h : Rd w v bs) (hl : bs.length ≤ 140737488355328) :
    Calls Try.prog 44 #[v] w fun e w' => ∃ v' : Value, e = .returned v' ∧ Own w' w.heap.size v' bs ∧ Below w.heap.size w w' := by
  obtain ⟨A, c, rfl, hc, hr⟩ := h
  have hf : clone.f (nB bs) = some (nB bs) := by unfold clone.f; rw [if_pos (by rw [nB_length]; exact hl)]
  have := clone.calls A c (nB bs) (nB bs) w (by rw [nB_length]; exact hr) (by rw [nB_length]; exact hc) hf
  rw [nB_length] at this
  exact this
def frameL (k : UInt8) (bs : List UInt8) : List UInt8 := if k = 0 then [] else sealB (k :: bs)
def frameE (k : UInt8) : Int := if k = 0 then 2 else 0
def openF (b : List UInt8) : UInt8 × List UInt8 × Int := match openB b with
  | none => (0, [], 11)
  | some [] => (0, [], 11)
  | some (x :: t) => if x = 0 then (0, [], 2) else (x, t, 0)
def bodyF (k : UInt8) (b : List UInt8) : List UInt8 × Int := if (openF b).2.2 ≠ 0 then ([], (openF b).2.2) else if (openF b).1 ≠ k then ([], 13) else ((openF b).2.1, 0)
theorem frame_h {w : World} {v : Value} {bs : List UInt8} (k : UInt8) (h : Rd w v bs) (hl : bs.length + 5 < 140737488355328) :
    Calls Try.prog 27 #[.int .u8 (k.toNat : Int), v] w fun e w' => ∃ v' : Value, e = .returned (.tuple #[v', .int .i64 (frameE k)]) ∧ Own w' w.heap.size v' (frameL k bs) ∧ Below w.heap.size w w' := by
  obtain ⟨A, c, rfl, hc, hr⟩ := h
  have hf : frame_Frame.f (k.toNat : Int) (nB bs) = some (nB (frameL k bs), frameE k) := by
    unfold frame_Frame.f frame_kind_wrong.f frameL frameE
    by_cases h0 : k = 0
    · subst h0
      rfl
    · have h1 : ((k.toNat : Int) == 0) = false := beq_eq_false_iff_ne.mpr (fun e => h0 (UInt8.toNat_inj.mp (by simpa using e)))
      have h2 : (([(k.toNat : Int)] : List Int).length + (nB bs).length < 140737488355328) := by rw [nB_length]; simp; omega
      have h3 : ([(k.toNat : Int)] : List Int) ++ nB bs = nB (k :: bs) := rfl
      simp only [Option.bind_some, h1, if_neg h0, Bool.false_eq_true, if_false, if_pos h2, h3, seal_f (k :: bs) (by simp; omega)]
  have := frame_Frame.calls (k.toNat : Int) A c (nB bs) _ _ w (by rw [nB_length]; exact hr) (by rw [nB_length]; exact hc) hf
  rw [nB_length] at this
  exact this
set_option maxRecDepth 100000 in
set_option maxHeartbeats 1000000 in
theorem openF_h {w : World} {v : Value} {bs : List UInt8} (h : Rd w v bs) (hl : bs.length < 140737488355328) :
    Calls Try.prog 28 #[v] w fun e w' => ∃ v' : Value, e = .returned (.tuple #[.int .u8 ((openF bs).1.toNat : Int), v', .int .i64 (openF bs).2.2]) ∧ Own w' w.heap.size v' (openF bs).2.1 ∧ Below w.heap.size w w' := by
  have HV := Aside0.mk h
  clear h
  rcases hob : openB bs with _ | inner
  · have ho : openF bs = (0, [], 11) := by unfold openF; rw [hob]
    rw [ho]
    have HOB := Aside0.mk hob
    clear hob ho
    go_enter Try.func28, Try.ntmps28
    go_wp2_with fail
    refine (open_h HV.out hl).mono ?_
    rintro e w1 ⟨v1, rfl, ho, hb⟩
    rw [HOB.out]
    have HB := Aside0.mk hb
    clear ho hb
    go_wp2
    go_ret3
    exact ⟨_, rfl, Own.nil _ _, HB.out⟩
  · have hil : openL bs = inner := by unfold openL; rw [hob]; rfl
    have HIL := Aside0.mk hil
    have HOB := Aside0.mk hob
    clear hil hob
    cases inner with
    | nil =>
      have ho : openF bs = (0, [], 11) := by unfold openF; rw [HOB.out]
      rw [ho]
      clear ho
      go_enter Try.func28, Try.ntmps28
      go_wp2_with fail
      refine (open_h HV.out hl).mono ?_
      rintro e w1 ⟨v1, rfl, ho, hb⟩
      rw [HOB.out]
      rw [HIL.out] at ho
      obtain ⟨A, cap, rfl, _⟩ := ho.rd
      have HB := Aside0.mk hb
      clear ho hb
      go_wp2
      go_ret3
      exact ⟨_, rfl, Own.nil _ _, HB.out⟩
    | cons x t =>
      have hlen : t.length ≤ bs.length := by
        have := HOB.out
        rw [openB_eq] at this
        split at this
        · have h2 := congrArg List.length (Option.some.inj this)
          rw [List.length_take] at h2
          simp at h2
          omega
        · cases this
      by_cases h0 : x = 0
      · have h00 : (x.toNat : Int) = 0 := by rw [h0]; rfl
        have hd : ((x.toNat : Int) == 0) = true := by rw [h00]; rfl
        have ho : openF bs = (0, [], 2) := by unfold openF; rw [HOB.out]; simp [h0]
        rw [ho]
        clear ho
        go_enter Try.func28, Try.ntmps28
        go_wp2_with fail
        refine (open_h HV.out hl).mono ?_
        rintro e w1 ⟨v1, rfl, ho, hb⟩
        rw [HOB.out]
        rw [HIL.out] at ho
        obtain ⟨g, cap, rfl, hg⟩ := ho.form (by simp)
        have hcap := ho.rd
        obtain ⟨_, _, e0, hcap, _⟩ := hcap
        cases e0
        have hce := ho.cell 0 (by simp)
        have hgl := ho.lt
        have hr1 : Rd w1 (.slice (some ⟨g, 1, none⟩) t.length (cap - 1)) t := Rd.drop (ad := ⟨g, 0, none⟩) (a2 := ⟨g, 1, none⟩) ho.rd 1 (by simp) (fun j => by simp [Addr.add])
        have HR1 := Aside0.mk hr1
        have HB := Aside0.mk hb
        clear ho hb hr1
        have hp1 : 1 ≤ cap := by simp at hcap; omega
        simp only [List.getElem_cons_zero] at hce
        simp only [List.length_cons] at *
        by_cases hc1 : cap = 1
        · subst hc1
          go_wp2_with fail
          go_region
          all_goals go_wp2_with fail
          generalize hW2 : (World.alloc _ _).drew = W2
          have hb2 : Below w1.heap.size w1 W2 := by rw [← hW2]; exact ((Below.refl _ _).alloc (Nat.le_refl _) _).drew
          have HB2 := Aside0.mk hb2
          clear hW2 hb2
          refine (frame_kind_wrong.calls 0 true _ rfl).mono ?_
          rintro e w5 ⟨rfl, hd5⟩
          have HD5 := Aside0.mk hd5.below
          clear hd5
          go_wp2
          go_ret3
          exact ⟨_, rfl, Own.nil _ _, chain HB.out (chain HB2.out HD5.out)⟩
        · go_wp2_with fail
          go_region
          all_goals go_wp2_with fail
          generalize hW2 : (World.alloc _ _).drew = W2
          have hb2 : Below w1.heap.size w1 W2 := by rw [← hW2]; exact ((Below.refl _ _).alloc (Nat.le_refl _) _).drew
          have HB2 := Aside0.mk hb2
          clear hW2 hb2
          refine (frame_kind_wrong.calls 0 true _ rfl).mono ?_
          rintro e w5 ⟨rfl, hd5⟩
          have HD5 := Aside0.mk hd5.below
          clear hd5
          go_wp2
          go_ret3
          exact ⟨_, rfl, Own.nil _ _, chain HB.out (chain HB2.out HD5.out)⟩
      · have h00 : (x.toNat : Int) ≠ 0 := fun e => h0 (UInt8.toNat_inj.mp (by simpa using e))
        have hd : ((x.toNat : Int) == 0) = false := beq_eq_false_iff_ne.mpr h00
        have ho : openF bs = (x, t, 0) := by unfold openF; rw [HOB.out]; simp [h0]
        rw [ho]
        clear ho
        go_enter Try.func28, Try.ntmps28
        go_wp2_with fail
        refine (open_h HV.out hl).mono ?_
        rintro e w1 ⟨v1, rfl, ho, hb⟩
        rw [HOB.out]
        rw [HIL.out] at ho
        obtain ⟨g, cap, rfl, hg⟩ := ho.form (by simp)
        have hcap := ho.rd
        obtain ⟨_, _, e0, hcap, _⟩ := hcap
        cases e0
        have hce := ho.cell 0 (by simp)
        have hgl := ho.lt
        have hr1 : Rd w1 (.slice (some ⟨g, 1, none⟩) t.length (cap - 1)) t := Rd.drop (ad := ⟨g, 0, none⟩) (a2 := ⟨g, 1, none⟩) ho.rd 1 (by simp) (fun j => by simp [Addr.add])
        have HR1 := Aside0.mk hr1
        have HB := Aside0.mk hb
        clear ho hb hr1
        have hp1 : 1 ≤ cap := by simp at hcap; omega
        simp only [List.getElem_cons_zero] at hce
        simp only [List.length_cons] at *
        by_cases hc1 : cap = 1
        · subst hc1
          obtain rfl : t = [] := List.eq_nil_of_length_eq_zero (by omega)
          simp only [List.length_nil] at *
          go_wp2_with fail
          go_region
          all_goals go_wp2_with fail
          generalize hW2 : (World.alloc _ _).drew = W2
          have hb2 : Below w1.heap.size w1 W2 := by rw [← hW2]; exact ((Below.refl _ _).alloc (Nat.le_refl _) _).drew
          have hs2 : w1.heap.size < W2.heap.size := by rw [← hW2]; simp
          have hc20 : W2.cell? ⟨w1.heap.size, 0, none⟩ = some (.int .u8 (x.toNat : Int)) := by rw [← hW2]; exact World.cell?_alloc_new ..
          have hc21 : W2.cell? ⟨w1.heap.size, 1, none⟩ = some (.slice (some ⟨g, 0, none⟩) 0 0) := by rw [← hW2]; exact World.cell?_alloc_new ..
          have HB2 := Aside0.mk hb2
          have HC20 := Aside0.mk hc20
          have HC21 := Aside0.mk hc21
          clear hW2 hb2 hc20 hc21
          refine (frame_kind_wrong.calls _ false _ (congrArg some hd)).mono ?_
          rintro e w5 ⟨rfl, hd5⟩
          have HB5 := Aside0.mk (chain HB2.out hd5.below)
          have hs5 : w1.heap.size < w5.heap.size := Nat.lt_of_lt_of_le hs2 hd5.below.size
          have hc50 : w5.cell? ⟨w1.heap.size, 0, none⟩ = some (.int .u8 (x.toNat : Int)) := by rw [hd5.below.cell (p := ⟨w1.heap.size, 0, none⟩) hs2]; exact HC20.out
          have hc51 : w5.cell? ⟨w1.heap.size, 1, none⟩ = some (.slice (some ⟨g, 0, none⟩) 0 0) := by rw [hd5.below.cell (p := ⟨w1.heap.size, 1, none⟩) hs2]; exact HC21.out
          have HS5 := Aside0.mk (show Rd w5 (.slice (some ⟨g, 0, none⟩) 0 0) _ from Rd.empty _ _ _)
          clear hd5
          go_wp2_with fail
          go_region_with (go_at_call 44; refine (clone_h (HS5.out.below (Below.refl _ _).drew) ?hln).mono ?_; (case hln => first | omega | simp); rintro e w6 ⟨v6, rfl, ho6, hb6⟩; have hc60 : w6.cell? ⟨w1.heap.size, 0, none⟩ = some (.int .u8 (x.toNat : Int)) := (by rw [hb6.cell (p := ⟨w1.heap.size, 0, none⟩) (by simpa using hs5)]; simpa using hc50); have HO6 := Aside0.mk ho6; have HB6 := Aside0.mk hb6; clear ho6 hb6)
          all_goals go_wp2
          all_goals go_ret3
          all_goals exact ⟨_, rfl, HO6.out.lower (by have := HB.out.size; simp; omega), chain HB.out (chain HB5.out (chain (Below.refl _ _).drew HB6.out))⟩
        · go_wp2_with fail
          go_region
          all_goals go_wp2_with fail
          generalize hW2 : (World.alloc _ _).drew = W2
          have hb2 : Below w1.heap.size w1 W2 := by rw [← hW2]; exact ((Below.refl _ _).alloc (Nat.le_refl _) _).drew
          have hs2 : w1.heap.size < W2.heap.size := by rw [← hW2]; simp
          have hc20 : W2.cell? ⟨w1.heap.size, 0, none⟩ = some (.int .u8 (x.toNat : Int)) := by rw [← hW2]; exact World.cell?_alloc_new ..
          have hc21 : W2.cell? ⟨w1.heap.size, 1, none⟩ = some (.slice (some ⟨g, 1, none⟩) t.length (cap - 1)) := by rw [← hW2]; exact World.cell?_alloc_new ..
          have HB2 := Aside0.mk hb2
          have HC20 := Aside0.mk hc20
          have HC21 := Aside0.mk hc21
          clear hW2 hb2 hc20 hc21
          refine (frame_kind_wrong.calls _ false _ (congrArg some hd)).mono ?_
          rintro e w5 ⟨rfl, hd5⟩
          have HB5 := Aside0.mk (chain HB2.out hd5.below)
          have hs5 : w1.heap.size < w5.heap.size := Nat.lt_of_lt_of_le hs2 hd5.below.size
          have hc50 : w5.cell? ⟨w1.heap.size, 0, none⟩ = some (.int .u8 (x.toNat : Int)) := by rw [hd5.below.cell (p := ⟨w1.heap.size, 0, none⟩) hs2]; exact HC20.out
          have hc51 : w5.cell? ⟨w1.heap.size, 1, none⟩ = some (.slice (some ⟨g, 1, none⟩) t.length (cap - 1)) := by rw [hd5.below.cell (p := ⟨w1.heap.size, 1, none⟩) hs2]; exact HC21.out
          have HS5 := Aside0.mk (show Rd w5 (.slice (some ⟨g, 1, none⟩) t.length (cap - 1)) _ from HR1.out.below (chain HB2.out hd5.below))
          clear hd5
          go_wp2_with fail
          go_region_with (go_at_call 44; refine (clone_h (HS5.out.below (Below.refl _ _).drew) ?hln).mono ?_; (case hln => first | omega | simp); rintro e w6 ⟨v6, rfl, ho6, hb6⟩; have hc60 : w6.cell? ⟨w1.heap.size, 0, none⟩ = some (.int .u8 (x.toNat : Int)) := (by rw [hb6.cell (p := ⟨w1.heap.size, 0, none⟩) (by simpa using hs5)]; simpa using hc50); have HO6 := Aside0.mk ho6; have HB6 := Aside0.mk hb6; clear ho6 hb6)
          all_goals go_wp2
          all_goals go_ret3
          all_goals exact ⟨_, rfl, HO6.out.lower (by have := HB.out.size; simp; omega), chain HB.out (chain HB5.out (chain (Below.refl _ _).drew HB6.out))⟩
end Go.Proofs.Ytgmbleaecfmfiaa.Given
