/- CONTRACTS OF crc's OWN FUNCTIONS: crc.More, its table and its halves, told in numbers; what is appended onto nil, and slices.Clone, told as rows of the call's own. No condition beyond what a contract says of itself. -/
import Derived.Test.YtgmbleaecfmfiaaProg
import Derived.Below
import Derived.Deep.Draws
import Derived.WalkKit
import Derived.KernelRfl
import Derived.WalkSpells
import Derived.RangeFuncBox
import Derived.RangeFuncLeaves
import Derived.RangeFuncFrom
import Derived.RangeFuncCalls
import Derived.Shelf.Abstract
import Derived.Shelf.RegionOpen
import Derived.OwnWalkIn
import Derived.TacticsInMore
import Derived.LoopNIn
import Derived.LoopIn
import Derived.Test.YtgmbleaecfmfiaaWWords
import Derived.Test.YtgmbleaecfmfiaaWLast
import Derived.Test.YtgmbleaecfmfiaaWMore
namespace Go.Proofs.Ytgmbleaecfmfiaa.Given
open Go.RowKit Go.Shelf Go.Proofs.YtgmbleaecfmfiaaW.PrintWords Go.Proofs.YtgmbleaecfmfiaaW.PrintLast Go.Proofs.YtgmbleaecfmfiaaW.PrintMore
theorem info5 : (Try.prog.info? 5).map (fun i => (i.zero, i.size, i.bytes)) = some (some (.int .u8 0), 1, 1) := by kernel_rfl
def own.f (l0 : List Int) : Option (List Int) := if l0.length ≤ 140737488355328 then some l0 else none
def clone.f (l0 : List Int) : Option (List Int) := if l0.length ≤ 140737488355328 then some l0 else none
theorem R_empty (w : World) (base : Nat) (hb : base ≤ w.heap.size) : Kd.R (Kd.int .u8) 5 (w.alloc (.cells #[] 5)) base (fun _ => True) (.slice (some ⟨w.heap.size, 0, none⟩) 0 0) [] :=
  Kd.R_of_own (by simpa [encs, nums] using own_lit w base 5 .u8 [] hb (by simp)) (fun _ _ => trivial)
set_option maxRecDepth 100000 in
set_option maxHeartbeats 400000 in
theorem clone.calls (A0 : Option Addr) (c0 : Nat) (l0 : List Int) (r : List Int) (w : World) (hr0 : Kd.C (Kd.int .u8) w A0 l0.length l0) (hc0 : l0.length ≤ c0) (h : clone.f l0 = some r) :
    Calls Try.prog 44 #[.slice A0 l0.length c0] w fun e w' => ∃ v0_ : Value, e = .returned (v0_) ∧ Kd.R (Kd.int .u8) 5 w' w.heap.size (fun _ => True) v0_ r ∧ Below w.heap.size w w' := by
  unfold clone.f at h
  split at h
  case isFalse => cases h
  rename_i hl
  obtain rfl := Option.some.inj h
  have HR0 := Aside0.mk hr0
  have HC0 := Aside0.mk hc0
  have LM := Aside0.mk hl
  clear hr0 hc0 hl h
  cases A0 with
  | none =>
    have hz : l0 = [] := by
      have h := HR0.out.2.2
      rcases Nat.eq_zero_or_pos l0.length with h0 | h0
      · exact List.eq_nil_of_length_eq_zero h0
      · obtain ⟨ad, h1, _⟩ := h h0
        cases h1
    subst hz
    have hnil := fun wx => Lib.run_eql_slice_nil (P := Try.prog) wx 32 5 none 0 c0 0 0 Try.underlying32
    simp only [Option.isNone_none] at hnil
    simp only [List.length_nil]
    go_enter Try.func44, Try.ntmps44
    go_wp2
    go_ret
    exact ⟨_, rfl, Kd.R_nil _ _ _ _ _, Below.refl _ _⟩
  | some a0 =>
    have hnil := fun wx => Lib.run_eql_slice_nil (P := Try.prog) wx 32 5 (some a0) l0.length c0 0 0 Try.underlying32
    simp only [Option.isNone_some] at hnil
    have HE := Aside0.mk (R_empty w w.heap.size (Nat.le_refl _))
    have HBE := Aside0.mk ((Below.refl w.heap.size w).alloc (Nat.le_refl _) (.cells #[] 5))
    go_enter Try.func44, Try.ntmps44
    go_wp2_with (first | ((with_reducible refine gate_builtin (b := .append) (xs := #[.tmp 5, .tmp 6]) rfl ?_); at_builtin; refine Kd.R_append_rows (Kd.int .u8) (w0 := w) w.heap.size rfl (.tmp 5) (.tmp 6) 32 5 (.int .u8 0) 1 rfl Try.underlying32 info5 rfl (by decide) (by omega) (.slice (some ⟨w.heap.size, 0, none⟩) 0 0) ([] : List Int) l0 _ _ _ (fun _ => True) (fun _ => False) rfl rfl ?aO ?aR (fun _ _ h => h) (fun _ h => h.elim) ?aF ?aB ?aS ?aL ?_; (case aR => exact Kd.C_below HR0.out HBE.out); (case aB => exact HBE.out); (case aF => exact (fun _ _ => trivial)); (case aO => exact HE.out); (case aS => exact HBE.out.size); (case aL => have := LM.out; simp; omega); intro v113 w4 ho hb hg hat; have n0_ := Aside0.mk (hb); have n1_ := Aside0.mk (ho); clear ho hb hg hat))
    go_ret
    exact ⟨_, rfl, n1_.out, n0_.out⟩
theorem cell_last (W : World) (c : Array Value) (t : TypeId) {b : Nat} (hb : b = W.heap.size) (j : Nat) {v : Value} (h : c[j]? = some v) : (W.alloc (.cells c t)).cell? ⟨b, j, none⟩ = some v := by
  subst hb
  rw [World.cell?_alloc_new]
  exact h
/-- a bit of the register, in numbers -/
def stepN (r : Nat) : Nat := if r % 2 = 1 then r / 2 ^^^ 3988292384 else r / 2
theorem stepN_lt (r : Nat) (h : r < 4294967296) : stepN r < 4294967296 := by
  unfold stepN
  split
  · exact Nat.xor_lt_two_pow (n := 32) (by omega) (by omega)
  · omega
theorem ret_int {k : IntKind} {a b : Int} (h : a = b) : Ending.returned (.int k a) = .returned (.int k b) := by rw [h]
theorem and1 (r : Nat) (h : r < 4294967296) : bits BinOp.and IntKind.u32 (↑r) 1 = ((r % 2 : Nat) : Int) := by
  have := u32_and_nat r 1 h (by omega)
  rw [Nat.and_one_is_mod] at this
  simpa using this
set_option maxRecDepth 100000 in
set_option maxHeartbeats 400000 in
theorem step.calls (r : Nat) (h : r < 4294967296) (w : World) :
    Calls Try.prog 52 #[.int .u32 r] w fun e w' => e = .returned (.int .u32 (stepN r)) ∧ w' = w := by
  have ha := Aside0.mk (and1 r h)
  have hx : bits BinOp.xor IntKind.u32 ((r : Int) / 2) 3988292384 = ((r / 2 ^^^ 3988292384 : Nat) : Int) := by
    have := u32_xor_nat (r / 2) 3988292384 (by omega) (by omega)
    simpa using this
  go_enter Try.func52, Try.ntmps52
  go_wp2
  · go_ret
    have h1 : (bits BinOp.and IntKind.u32 (↑r) 1 == 1) = true := by assumption
    refine ⟨ret_int ?_, rfl⟩
    rw [ha.out] at h1
    unfold stepN
    rw [if_pos (by simp at h1; omega)]
  · go_ret
    have h1 : (bits BinOp.and IntKind.u32 (↑r) 1 == 1) = false := by assumption
    refine ⟨ret_int ?_, rfl⟩
    rw [ha.out] at h1
    unfold stepN
    rw [if_neg (by simp at h1; omega)]
    omega
def T (j : Nat) : Nat := stepN (stepN (stepN (stepN j)))
theorem T_lt (j : Nat) (h : j < 4294967296) : T j < 4294967296 := stepN_lt _ (stepN_lt _ (stepN_lt _ (stepN_lt _ h)))
/-- the table when k of its numbers are there -/
def tab (k : Nat) : Array Value := ((List.range 16).map fun j => Value.int .u32 ((if j < k then T j else 0 : Nat) : Int)).toArray
theorem tab_size (k : Nat) : (tab k).size = 16 := by simp [tab]
theorem tab_get (k j : Nat) (h : j < 16) : (tab k)[j]? = some (.int .u32 ((if j < k then T j else 0 : Nat) : Int)) := by simp [tab, h]
theorem tab_set (k : Nat) (h : k < 16) : (tab k).setIfInBounds k (.int .u32 (T k)) = tab (k + 1) := by
  apply Array.ext_getElem?
  intro i
  rw [Array.getElem?_setIfInBounds]
  by_cases hi : i < 16
  · rw [tab_get k i hi, tab_get (k + 1) i hi]
    by_cases hk : k = i
    · subst hk
      simp [tab_size, h]
    · simp only [hk, if_false]
      have : (i < k) ↔ (i < k + 1) := by omega
      simp only [this]
  · have h1 : (tab k)[i]? = none := by rw [Array.getElem?_eq_none]; rw [tab_size]; omega
    have h2 : (tab (k + 1))[i]? = none := by rw [Array.getElem?_eq_none]; rw [tab_size]; omega
    rw [h1, h2, if_neg (by omega)]
theorem tab_zero : tab 0 = #[.int .u32 0, .int .u32 0, .int .u32 0, .int .u32 0, .int .u32 0, .int .u32 0, .int .u32 0, .int .u32 0, .int .u32 0, .int .u32 0, .int .u32 0, .int .u32 0, .int .u32 0, .int .u32 0, .int .u32 0, .int .u32 0] := by
  simp [tab, List.range_succ]
def full : Array Value := #[.int .u32 (T 0), .int .u32 (T 1), .int .u32 (T 2), .int .u32 (T 3), .int .u32 (T 4), .int .u32 (T 5), .int .u32 (T 6), .int .u32 (T 7), .int .u32 (T 8), .int .u32 (T 9), .int .u32 (T 10), .int .u32 (T 11), .int .u32 (T 12), .int .u32 (T 13), .int .u32 (T 14), .int .u32 (T 15)]
theorem tab_full : tab 16 = full := by
  simp [tab, full, List.range_succ]
set_option maxRecDepth 100000 in
set_option maxHeartbeats 400000 in
theorem table.calls (w : World) :
    Calls Try.prog 50 #[] w fun e w' => e = .returned (.agg full) ∧ w' = (w.alloc (.cells full 87)).alloc (.cells full 87) := by
  go_enter Try.func50, Try.ntmps50
  go_wp2
  rw [← tab_zero]
  go_loopw [4] (fun i wr => ∃ k : Nat, k ≤ 16 ∧ i = .int .i64 k ∧ wr = (w.alloc (.cells (tab 0) 87)).alloc (.cells (tab k) 87)) (fun i _ => 16 - (intOf i).toNat)
  case atStart => exact ⟨0, by omega, rfl, rfl⟩
  case round =>
    obtain ⟨k, hk, rfl, rfl⟩ := hrel
    by_cases hlt : k < 16
    · have b0 : k < 4294967296 := by omega
      have b1 := stepN_lt k b0
      have b2 := stepN_lt _ b1
      have b3 := stepN_lt _ b2
      have hset := tab_set k hlt
      have hcell : ((w.alloc (.cells (tab 0) 87)).alloc (.cells (tab k) 87)).cell? ⟨w.heap.size + 1, k, none⟩ = some (.int .u32 0) := by
        have h := tab_get k k (by omega)
        rw [if_neg (by omega)] at h
        exact cell_last _ _ _ (by simp) _ h
      go_wp2_with fail
      refine (step.calls k b0 _).mono ?_
      rintro e w' ⟨rfl, rfl⟩
      go_wp2_with fail
      refine (step.calls _ b1 _).mono ?_
      rintro e w' ⟨rfl, rfl⟩
      go_wp2_with fail
      refine (step.calls _ b2 _).mono ?_
      rintro e w' ⟨rfl, rfl⟩
      go_wp2_with fail
      refine (step.calls _ b3 _).mono ?_
      rintro e w' ⟨rfl, rfl⟩
      go_wp2_with fail
      go_roundw
      case rel => exact ⟨k + 1, by omega, by go_num, by rw [← hset]; rfl⟩
      case measure => simp [intOf]; omega
    · obtain rfl : k = 16 := by omega
      rw [tab_full, tab_zero]
      simp only [full]
      go_wp2
      refine bodyPost_ret (v := .agg full) ?_ rfl ⟨rfl, rfl⟩
      simp [results, Try.f50, go_sem, full]
attribute [local go_sem] Oper.semAt_some
/-- bytes as the numbers that memory holds -/
def nB (bs : List UInt8) : List Int := bs.map fun c => (c.toNat : Int)
def lo (c : UInt8) : Fin 16 := ⟨c.toNat % 16, by omega⟩
def hi (c : UInt8) : Fin 16 := ⟨c.toNat / 16, by have := c.toNat_lt; omega⟩
def nibs (bs : List UInt8) : List (Fin 16) := bs.flatMap fun c => [lo c, hi c]
theorem nibs_length (bs : List UInt8) : (nibs bs).length = 2 * bs.length := by
  induction bs with
  | nil => rfl
  | cons c bs ih => simp only [nibs, List.flatMap_cons, List.length_append, List.length_cons, List.length_nil] at *; omega
theorem nibs_succ (bs : List UInt8) (k : Nat) (h : k < bs.length) : nibs (bs.take (k + 1)) = nibs (bs.take k) ++ [lo bs[k]] ++ [hi bs[k]] := by
  rw [List.take_succ_eq_append_getElem h]
  simp only [nibs, List.flatMap_append, List.flatMap_cons, List.flatMap_nil, List.append_nil, List.append_assoc, List.cons_append, List.nil_append]
set_option maxRecDepth 100000 in
set_option maxHeartbeats 2000000 in
/-- the halves, one behind the other, for every body that keeps what lay below n₀ -/
theorem halves1_in (F : Fence) (n : Nat) (hf : F.fn 53) (hro : F.round = none) (hn : 1 ≤ n) (l Bs n₀ b off cap : Nat) (bs : List UInt8) (hreach : bs.length ≤ 140737488355328) (hb : b < n₀) (J Jx : List (Fin 16) → World → Prop)
    (hY : ∀ pre x W, J pre W → pre.length < 2 * bs.length → YieldAt F (n - 1) Try.prog l #[.int .u32 (x.val : Int)] W fun e W' =>
      (e = .returned (.bool true) ∧ J (pre ++ [x]) W' ∧ Below n₀ W W') ∨ (e = .returned (.bool false) ∧ Jx (pre ++ [x]) W'))
    (W : World) (hBs : W.cell? ⟨Bs, 0, none⟩ = some (.slice (some ⟨b, off, none⟩) bs.length cap)) (hc : ∀ j, (h : j < bs.length) → W.cell? ⟨b, off + j, none⟩ = some (.int .u8 (bs[j].toNat : Int))) (h0 : J [] W) :
    CallsIn F n Try.prog 53 #[.func (.yield l) #[] #[], .pointer (some ⟨Bs, 0, none⟩)] W fun e W' => (∃ v, e = .returned v) ∧
      ((∃ ys, ys = nibs bs ∧ J ys W') ∨ (∃ pre, True ∧ Jx pre W')) := by
  refine callsIn_of_wp Try.func53 rfl hf ?_ hro
  simp only [Try.ntmps53, List.size_toArray, List.length_cons, List.length_nil, Nat.reduceAdd, Nat.reduceSub, Array.replicate_succ, Array.replicate_zero, List.push_toArray, List.append_toArray, List.nil_append, List.cons_append]
  gi_wp2
  gi_loopw [7] (fun i wr => ∃ k : Nat, k ≤ bs.length ∧ i = .int .i64 k ∧ J (nibs (bs.take k)) wr ∧ Below n₀ W wr)
    (fun i _ => bs.length - (intOf i).toNat)
  case atStart => exact ⟨0, Nat.zero_le _, rfl, h0, Below.refl _ _⟩
  case round =>
    obtain ⟨k, hk, rfl, hJs, hnx⟩ := hrel
    by_cases hlt : k < bs.length
    · have hcx' : wr.cell? ⟨b, off + k, none⟩ = some (.int .u8 (bs[k].toNat : Int)) := (hnx.cell (p := ⟨b, off + k, none⟩) hb).trans (hc k hlt)
      have hu := bs[k].toNat_lt
      obtain ⟨fn, tmps, assign, body, hy, hR⟩ := hY _ (lo bs[k]) wr hJs (by rw [nibs_length, List.length_take]; omega)
      have e1 : (bits .and .u8 (bs[k].toNat : Int) 15) = ((lo bs[k]).val : Int) := by
        have := u8_and_nat bs[k].toNat 15 (by omega) (by omega)
        rw [nat_mask4] at this
        exact this
      have e2 : (bs[k].toNat : Int) / 16 = ((hi bs[k]).val : Int) := by simp [hi]
      have hs := nibs_succ bs k hlt
      have HS := Aside0.mk hs
      clear hs
      gi_wp2
      refine hR.mono ?_
      rintro e W3 (⟨rfl, hJ3, hk3⟩ | ⟨rfl, hJx3⟩)
      · obtain ⟨fn2, tmps2, assign2, body2, hy2, hR2⟩ := hY _ (hi bs[k]) W3 hJ3 (by simp only [List.length_append, List.length_cons, List.length_nil]; rw [nibs_length, List.length_take]; omega)
        gi_wp2
        refine hR2.mono ?_
        rintro e W4 (⟨rfl, hJ4, hk4⟩ | ⟨rfl, hJx4⟩)
        · gi_wp2
          go_roundw
          case rel => exact ⟨k + 1, by omega, by simp, by rw [HS.out]; exact hJ4, (hnx.trans hk3).trans hk4⟩
          case measure => simp [intOf]; omega
        · gi_wp2
          refine bodyPost_ret (results_none rfl _ _ _) rfl ?_
          exact ⟨⟨_, rfl⟩, .inr ⟨_, trivial, hJx4⟩⟩
      · gi_wp2
        refine ⟨fun _ h => (by cases h), ?_⟩
        gi_wp2
        refine bodyPost_ret (results_none rfl _ _ _) rfl ?_
        exact ⟨⟨_, rfl⟩, .inr ⟨_, trivial, hJx3⟩⟩
    · obtain rfl : k = bs.length := by omega
      rw [List.take_length] at hJs
      gi_wp2
      go_end0
      exact ⟨⟨_, rfl⟩, .inl ⟨_, rfl, hJs⟩⟩
set_option maxRecDepth 100000 in
set_option maxHeartbeats 1000000 in
/-- at a slice without bytes: no round -/
theorem halves1_nil_in (F : Fence) (n : Nat) (hf : F.fn 53) (hro : F.round = none) (l Bs cap : Nat) (A : Option Addr) (J : List (Fin 16) → World → Prop) (W : World) (hBs : W.cell? ⟨Bs, 0, none⟩ = some (.slice A 0 cap)) (h0 : J [] W) :
    CallsIn F n Try.prog 53 #[.func (.yield l) #[] #[], .pointer (some ⟨Bs, 0, none⟩)] W fun e W' => (∃ v, e = .returned v) ∧ J [] W' := by
  refine callsIn_of_wp Try.func53 rfl hf ?_ hro
  simp only [Try.ntmps53, List.size_toArray, List.length_cons, List.length_nil, Nat.reduceAdd, Nat.reduceSub, Array.replicate_succ, Array.replicate_zero, List.push_toArray, List.append_toArray, List.nil_append, List.cons_append]
  gi_wp2
  gi_loopw [7] (fun i wr => i = .int .i64 0 ∧ J [] wr) (fun _ _ => 0)
  case atStart => exact ⟨rfl, h0⟩
  case round =>
    obtain ⟨rfl, hJs⟩ := hrel
    gi_wp2
    go_end0
    exact ⟨⟨_, rfl⟩, hJs⟩
theorem nB_length (bs : List UInt8) : (nB bs).length = bs.length := by simp [nB]
theorem nB_get (bs : List UInt8) (j : Nat) (h : j < bs.length) : (nB bs)[j]? = some (bs[j].toNat : Int) := by simp [nB, h]
/-- the cells of a row of bytes that is read -/
theorem C_bytes {w : World} {A : Option Addr} {bs : List UInt8} (h : Kd.C (Kd.int .u8) w A (nB bs).length (nB bs)) (hp : 0 < bs.length) :
    ∃ b off, A = some ⟨b, off, none⟩ ∧ b < w.heap.size ∧ ∀ j, (h : j < bs.length) → w.cell? ⟨b, off + j, none⟩ = some (.int .u8 (bs[j].toNat : Int)) := by
  have hl := nB_length bs
  have key : ∀ j, (h : j < bs.length) → ∃ ad, A = some ad ∧ w.cell? (ad.add j) = some (.int .u8 (bs[j].toNat : Int)) := by
    intro j hj
    obtain ⟨ad, e, hc⟩ := Kd.at_int h (j : Int) (by omega) (by omega)
    refine ⟨ad, e, ?_⟩
    have : rd (nB bs) (j : Int) = (bs[j].toNat : Int) := by simp [rd, nB, hj]
    rw [this] at hc
    simpa using hc
  obtain ⟨⟨b, off, spot⟩, e, hc⟩ := key 0 hp
  have hspot : spot = none := by simpa [Addr.add] using World.cell?_spot hc
  subst hspot
  refine ⟨b, off, e, ?_, fun j hj => ?_⟩
  · have := World.block_lt_of_cell? w _ hc
    simpa [Addr.add] using this
  · obtain ⟨ad, e', hc'⟩ := key j hj
    rw [e] at e'
    cases e'
    rcases Nat.eq_zero_or_pos j with rfl | hj0
    · simpa [Addr.add] using hc'
    · simpa [Addr.add, Nat.ne_of_gt hj0] using hc'
set_option maxRecDepth 100000 in
set_option maxHeartbeats 1000000 in
theorem halves.calls (A : Option Addr) (n c : Nat) (w : World) :
    Calls Try.prog 51 #[.slice A n c] w fun e w' => e = .returned (.func (.func 53) #[] #[.pointer (some ⟨w.heap.size, 0, none⟩)]) ∧ w' = w.alloc (.cells #[.slice A n c] 32) := by
  go_enter Try.func51, Try.ntmps51
  go_wp2
  go_ret
  exact ⟨rfl, rfl⟩
theorem halves_stops (n : Nat) (hn : 1 ≤ n) (Bs n₀ : Nat) (A : Option Addr) (cap : Nat) (bs : List UInt8) (hreach : bs.length ≤ 140737488355328) (w : World) (hBs : Bs < w.heap.size) (hn₀ : n₀ ≤ w.heap.size)
    (hc : w.cell? ⟨Bs, 0, none⟩ = some (.slice A bs.length cap)) (hI : 0 < bs.length → ∃ b off, A = some ⟨b, off, none⟩ ∧ b < n₀ ∧ ∀ j, (h : j < bs.length) → w.cell? ⟨b, off + j, none⟩ = some (.int .u8 (bs[j].toNat : Int))) :
    SeqStopsK Fence.wide n Try.prog 53 #[.pointer (some ⟨Bs, 0, none⟩)] (fun x : Fin 16 => #[Value.int .u32 (x.val : Int)]) (Below n₀) (fun ys => ys = nibs bs) (fun _ => True) (2 * bs.length) w := fun l J Jx W hW _ _ hY h0 => by
  have hc' := (hW.cell (p := ⟨Bs, 0, none⟩) hBs).trans hc
  rcases Nat.eq_zero_or_pos bs.length with hz | hp
  · obtain rfl : bs = [] := List.eq_nil_of_length_eq_zero hz
    exact (halves1_nil_in Fence.wide n trivial rfl l Bs cap A J W hc' h0).mono fun e W' ⟨he, hj⟩ => ⟨he, .inl ⟨_, rfl, hj⟩⟩
  · obtain ⟨b, off, rfl, hb, hcs⟩ := hI hp
    exact halves1_in Fence.wide n trivial rfl hn l Bs n₀ b off cap bs hreach hb J Jx hY W hc' (fun j h => (hW.cell (p := ⟨b, off + j, none⟩) (by show b < _; omega)).trans (hcs j h)) h0
theorem full_get (j : Nat) (h : j < 16) : full[j]? = some (.int .u32 (T j)) := by
  rw [← tab_full, tab_get 16 j h, if_pos h]
/-- the register behind a half -/
def nibN (r h : Nat) : Nat := (r / 16) ^^^ T ((r ^^^ h) % 16)
def regN (r : Nat) (xs : List (Fin 16)) : Nat := xs.foldl (fun r x => nibN r x.val) r
def moreN (s : Nat) (bs : List UInt8) : Nat := 4294967295 - regN (4294967295 - s) (nibs bs)
theorem nibN_lt (r h : Nat) (hr : r < 4294967296) : nibN r h < 4294967296 := Nat.xor_lt_two_pow (n := 32) (by omega) (T_lt _ (by omega))
theorem regN_lt (xs : List (Fin 16)) : ∀ r, r < 4294967296 → regN r xs < 4294967296 := by
  induction xs with
  | nil => exact fun r h => h
  | cons x xs ih => exact fun r h => ih _ (nibN_lt _ _ h)
theorem regN_snoc (r : Nat) (xs : List (Fin 16)) (x : Fin 16) : regN r (xs ++ [x]) = nibN (regN r xs) x.val := by simp [regN]
theorem not_u32 (n : Nat) (h : n < 4294967296) : bits .xor .u32 IntKind.u32.max (n : Int) = ((4294967295 - n : Nat) : Int) := by
  have hm : IntKind.u32.max = ((4294967295 : Nat) : Int) := by decide
  rw [hm, u32_xor_nat _ _ (by omega) h]
  congr 1
  apply Nat.eq_of_testBit_eq
  intro i
  rw [Nat.testBit_xor, show (4294967295 : Nat) - n = 2 ^ 32 - (n + 1) by omega, Nat.testBit_two_pow_sub_succ (by omega), show (4294967295 : Nat) = 2 ^ 32 - 1 by omega, Nat.testBit_two_pow_sub_one]
  by_cases hi : i < 32
  · simp [hi]
  · have : n.testBit i = false := Nat.testBit_lt_two_pow (Nat.lt_of_lt_of_le (show n < 2 ^ 32 by omega) (Nat.pow_le_pow_right (by omega) (by omega)))
    simp [hi, this]
set_option maxRecDepth 100000 in
set_option maxHeartbeats 2000000 in
theorem more.calls0 (s : Nat) (hs : s < 4294967296) (A : Option Addr) (cap : Nat) (bs : List UInt8) (w : World) (hr : Kd.C (Kd.int .u8) w A (nB bs).length (nB bs)) (hl : bs.length ≤ 140737488355328) :
    Calls Try.prog 49 #[.int .u32 s, .slice A bs.length cap] w fun e w' => e = .returned (.int .u32 (moreN s bs)) ∧ Below w.heap.size w w' := by
  refine callsIn_wide (n := 5)|>.1 ?_
  have hbs := C_bytes hr
  have HBS := Aside0.mk hbs
  clear hr hbs
  have hsg : IntKind.u32.signed = false := rfl
  have hxs : bits .xor .u32 IntKind.u32.max (s : Int) = ((4294967295 - s : Nat) : Int) := by
    exact not_u32 s hs
  have h1 : 1 ≤ 5 := by omega
  have hro : Fence.wide.round = none := rfl
  have f61 : Fence.wide.fn 50 := trivial
  have f62 : Fence.wide.fn 51 := trivial
  have f81 : Fence.wide.fn 53 := trivial
  refine callsIn_of_wp_marks Try.func49 rfl trivial ?_ hro
  simp only [Try.ntmps49, List.size_toArray, List.length_cons, List.length_nil, Nat.reduceAdd, Nat.reduceSub, Array.replicate_succ, Array.replicate_zero, List.push_toArray, List.append_toArray, List.nil_append, List.cons_append]
  gi_wp2_with fail
  refine (callsIn_wide.2 (table.calls _)).mono ?_
  rintro e w' ⟨rfl, rfl⟩
  simp only [full]
  gi_wp2_with fail
  refine (callsIn_wide.2 (halves.calls _ _ _ _)).mono ?_
  rintro e w' ⟨rfl, rfl⟩
  gi_wp2_with fail
  generalize hW : World.alloc _ _ = W0
  have hsz : W0.heap.size = w.heap.size + 5 := by rw [← hW]; simp
  have hB0 : Below w.heap.size w W0 := by
    rw [← hW]
    repeat (first | exact Below.refl _ _ | apply below_alloc)
  have hbox : W0.cell? ⟨w.heap.size + 1 + 1 + 1 + 1, 0, none⟩ = some (.slice A bs.length cap) := by rw [← hW]; clear hW; simp [go_sem]
  have hr0 : W0.cell? ⟨w.heap.size + 1 + 1 + 1, 0, none⟩ = some (.int .u32 ((4294967295 - s : Nat) : Int)) := by rw [← hW]; clear hW; simp [go_sem]
  have hfr : W0.frozen? ⟨w.heap.size + 1 + 1 + 1, 0, none⟩ = false := by rw [← hW]; clear hW; simp [go_sem]
  have hT : ∀ j, j < 16 → W0.cell? ⟨w.heap.size + 1 + 1, j, none⟩ = some (.int .u32 (T j)) := by
    intro j hj
    rw [← hW]
    clear hW
    have := full_get j hj
    simp [go_sem]
    simpa [full] using this
  clear hW
  generalize hr : 4294967295 - s = r0 at *
  have hr0lt : r0 < 4294967296 := by omega
  obtain ⟨B, hB⟩ : ∃ B, w.heap.size + 1 + 1 = B := ⟨_, rfl⟩
  have hwB : w.heap.size + 2 = B := hB
  rw [hB] at hbox hr0 hfr ⊢
  simp only [hB] at hT
  clear hB
  refine wpIn_rangeFunc_ownG hro h1 (gf := 53) (lb := #[.pointer (some ⟨B + 1 + 1, 0, none⟩)]) rfl trivial (enters_of Try.func53 (by kernel_rfl) rfl)
    (halves_stops (5 - 1) (by omega) (B + 1 + 1) w.heap.size A cap bs hl W0 (by omega) hB0.size hbox
      (fun hp => by
        obtain ⟨b, off, e, hb, hc⟩ := HBS.out hp
        exact ⟨b, off, e, hb, fun j hj => (hB0.cell (p := ⟨b, off + j, none⟩) hb).trans (hc j hj)⟩)) belowK_t (belowK_b hB0.size) (Below.refl _ _) (fun _ => rfl)
    (fun pre W' => (W'.cell? ⟨B + 1, 0, none⟩ = some (.int .u32 (regN r0 pre)) ∧ W'.frozen? ⟨B + 1, 0, none⟩ = false ∧ ∀ j, j < 16 → W'.cell? ⟨B, j, none⟩ = some (.int .u32 (T j))) ∧ Below w.heap.size w W')
    (fun _ _ _ => False)
    (OwnFrom.and (Own.from (fun s A B row hs hg hr => ⟨cell_kept hs.1 hg hr, (frozen_kept hs.1 hg hr).trans hs.2.1, fun j hj => cell_kept (hs.2.2 j hj) hg hr⟩) _) (ownFrom_below (Nat.le_refl _) hB0.size))
    (fun _ _ _ _ _ hs _ _ => hs)
    ⟨⟨hr0, hfr, hT⟩, hB0⟩
    (fun x => { tmps := #[.int .u32 s, .slice A bs.length cap, undef, undef, .int .u32 0, .pointer (some ⟨B, 0, none⟩), .pointer (some ⟨B + 1, 0, none⟩), .int .u32 (x.val : Int), .agg full, .int .u32 s, .int .u32 r0, .slice A bs.length cap, .func (.func 53) #[] #[.pointer (some ⟨B + 1 + 1, 0, none⟩)], .int .u32 (x.val : Int), undef, undef, undef, undef, undef, undef, undef, undef, undef, undef, undef], defers := [] }) ?assign ?body ?done ?stop
  case assign =>
    intro l x W K hK
    gi_wp2
    exact hK
  case body =>
    rintro l pre x W ⟨⟨hc, hf, ht⟩, hB⟩ _
    have hRlt := regN_lt pre r0 hr0lt
    have hsn := regN_snoc r0 pre x
    generalize regN r0 pre = R at *
    have hend1 : ∀ v, (W.setCell ⟨B + 1, 0, none⟩ v).drew.cell? ⟨B + 1, 0, none⟩ = some v := fun v => World.cell?_setCell_same' _ _ _ (by rw [hc]; rfl)
    have hend2 : ∀ v, (W.setCell ⟨B + 1, 0, none⟩ v).drew.frozen? ⟨B + 1, 0, none⟩ = false := fun v => by rw [frozen_drew_own, World.frozen?_setCell]; exact hf
    have hend3 : ∀ v j, j < 16 → (W.setCell ⟨B + 1, 0, none⟩ v).drew.cell? ⟨B, j, none⟩ = some (.int .u32 (T j)) := fun v j hj => by
      have := ht j hj
      simp [go_sem, this]
    have hfin : ∀ a : Act, ownPostG (α := Fin 16) W0.heap.size (Below w.heap.size) (fun pre W' => (W'.cell? ⟨B + 1, 0, none⟩ = some (.int .u32 (regN r0 pre)) ∧ W'.frozen? ⟨B + 1, 0, none⟩ = false ∧ ∀ j, j < 16 → W'.cell? ⟨B, j, none⟩ = some (.int .u32 (T j))) ∧ Below w.heap.size w W') (fun _ _ _ => False) (pre ++ [x]) W .normal a (W.setCell ⟨B + 1, 0, none⟩ (.int .u32 (nibN R x.val : Nat))).drew :=
      fun a => ⟨((KeepsOthers.setCell _ _ _).trans (KeepsOthers.drew _)).from _, ((Below.refl _ _).setCell (p := ⟨B + 1, 0, none⟩) (by show w.heap.size ≤ B + 1; omega) _).drew, ⟨by rw [hsn]; exact hend1 _, hend2 _, hend3 _⟩, (hB.setCell (p := ⟨B + 1, 0, none⟩) (by show w.heap.size ≤ B + 1; omega) _).drew⟩
    clear hend1 hend2 hend3 hsn
    have hfin := Aside0.mk hfin
    have e1 : bits .xor .u32 (R : Int) (x.val : Int) = ((R ^^^ x.val : Nat) : Int) := u32_xor_nat _ _ hRlt (by omega)
    have hx : R ^^^ x.val < 4294967296 := Nat.xor_lt_two_pow (n := 32) hRlt (by omega)
    have e2 : bits .and .u32 ((R ^^^ x.val : Nat) : Int) 15 = (((R ^^^ x.val) % 16 : Nat) : Int) := by
      have := u32_and_nat (R ^^^ x.val) 15 hx (by omega)
      rw [nat_mask4] at this
      exact this
    have e3 : bits .xor .u32 ((R : Int) / 16) ((T ((R ^^^ x.val) % 16) : Nat) : Int) = ((nibN R x.val : Nat) : Int) := by
      have := u32_xor_nat (R / 16) (T ((R ^^^ x.val) % 16)) (by omega) (T_lt _ (by omega))
      exact this
    have e4 := ht ((R ^^^ x.val) % 16) (by omega)
    have hm : (R ^^^ x.val) % 16 < 16 := by omega
    have e3 := Aside0.mk e3
    clear ht
    have hmx : Try.prog.follows .mixedOrders = true := by kernel_rfl
    gi_wp2
    gi_region_with_o (fail)
    all_goals exact hfin.out ⟨#[], []⟩
  case done =>
    rintro D ys W hD rfl ⟨⟨hc, _, _⟩, hB⟩ hK
    have hx2 : bits .xor .u32 IntKind.u32.max ((regN r0 (nibs bs) : Nat) : Int) = ((moreN s bs : Nat) : Int) := by
      have := not_u32 (regN r0 (nibs bs)) (regN_lt _ _ hr0lt)
      rw [this]
      unfold moreN
      rw [hr]
    gi_wp2
    refine ⟨by simp, .inl ⟨_, _, rfl, run_takeDeferred hK, ?_⟩⟩
    exact ⟨_, results_tmp rfl _ _ _, rfl, hB.trans (belowK_b (w := w) (Nat.le_refl _) W D _ _ (by omega) hK rfl rfl)⟩
  case stop =>
    rintro D c pre W _ _ h _
    exact h.elim
end Go.Proofs.Ytgmbleaecfmfiaa.Given
