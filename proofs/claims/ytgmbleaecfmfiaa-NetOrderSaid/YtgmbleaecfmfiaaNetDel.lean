/- THE CONTRACT OF slices.Delete AT LETTERS, ONE LETTER AWAY. No condition beyond what it says. -/
import Derived.Test.YtgmbleaecfmfiaaNetRow
import Derived.Lib.SliceRun
namespace Go.Proofs.Ytgmbleaecfmfiaa.Given
open Go.RowKit Go.Proofs.YtgmbleaecfmfiaaW.PrintWords Go.Proofs.YtgmbleaecfmfiaaW.PrintLast Go.Proofs.YtgmbleaecfmfiaaW.PrintMore Go.Proofs.Ytgmbleaecfmfiaa.PS
set_option linter.unusedVariables false
/-- cells written one by one from place o on -/
def setL (cs : Array Value) : Nat → List Value → Array Value
  | _, [] => cs
  | o, v :: r => setL (cs.setIfInBounds o v) (o + 1) r
theorem setL_size (vs : List Value) : ∀ (cs : Array Value) (o : Nat), (setL cs o vs).size = cs.size := by
  induction vs with
  | nil => intro cs o; rfl
  | cons v r ih => intro cs o; rw [setL, ih]; simp
theorem setL_out (vs : List Value) : ∀ (cs : Array Value) (o j : Nat), (j < o ∨ o + vs.length ≤ j) → (setL cs o vs)[j]? = cs[j]? := by
  induction vs with
  | nil => intro cs o j h; rfl
  | cons v r ih =>
    intro cs o j h
    rw [List.length_cons] at h
    rw [setL, ih _ _ _ (by omega), Array.getElem?_setIfInBounds_ne (by omega)]
theorem setL_in (vs : List Value) : ∀ (cs : Array Value) (o j : Nat), j < vs.length → o + j < cs.size → (setL cs o vs)[o + j]? = vs[j]? := by
  induction vs with
  | nil => intro cs o j h; simp at h
  | cons v r ih =>
    intro cs o j h hs
    rw [List.length_cons] at h
    rw [setL]
    rcases j with _ | j
    · rw [setL_out _ _ _ _ (by omega)]
      simp only [Nat.add_zero] at hs ⊢
      rw [Array.getElem?_setIfInBounds_self_of_lt hs]
      rfl
    · rw [show o + (j + 1) = o + 1 + j by omega, ih _ _ _ (by omega) (by simp; omega)]
      rfl
theorem Bx.setCells {g : Nat} {t : TypeId} (vs : List Value) : ∀ {w : World} {cs : Array Value} (o : Nat), Bx w g t cs → Bx (w.setCells g o vs) g t (setL cs o vs) := by
  induction vs with
  | nil => intro w cs o h; exact h
  | cons v r ih => intro w cs o h; exact ih (o + 1) (h.set o v)
theorem setCells_grown (vs : List Value) : ∀ {w w1 : World} {r : Nat} (o : Nat), w.grownBy w1 (some r) → w.grownBy (w1.setCells r o vs) (some r) := by
  induction vs with
  | nil => intro w w1 r o h; exact h
  | cons v t ih =>
    intro w w1 r o h
    refine ih (o + 1) ⟨h.os, h.tape, h.output, by simpa using h.size, fun k hk hne => ?_⟩
    rw [Below.heap_setCell _ _ _ _ (fun e => hne (by rw [e]))]
    exact h.block k hk hne
def zLet : List Value := [.int .u64 0, .slice none 0 0, .bool false]
def newsL (cur : Array Value) (i k : Nat) : List Value := (cur.toList.drop ((i + 1) * 3)).take (k * 3)
def delC (cur : Array Value) (i k : Nat) : Array Value := setL (setL cur (i * 3) (newsL cur i k)) ((i + k) * 3) zLet
theorem run_clear_let {W : World} {r o c' : Nat} {cs : Array Value} (hx : Bx W r 36 cs) (ho : o + 3 ≤ cs.size) (ty : TypeId) :
    (Builtin.clear_ #[26] ty #[.slice (some ⟨r, o, none⟩) 1 c']).run Try.prog W = .ok (.tuple #[]) (W.setCells r o zLet) := by
  have hz : (zeroValue 36).run Try.prog W = .ok (.agg #[.int .u64 0, .slice none 0 0, .bool false]) W := by kernel_rfl
  have hzc : (Builtin.zeroCells (Value.agg #[.int .u64 0, .slice none 0 0, .bool false]).cells 1).toList = zLet := by kernel_rfl
  have hst := run_storeCells_cells (P := Try.prog) r o zLet 0 W (fun j hj => by
      rw [Nat.add_zero, hx.cell]
      have : j < 3 := hj
      rw [Array.getElem?_eq_getElem (by omega)]
      rfl) (fun j _ => hx.fz _) (by
      intro v hv
      simp only [zLet, List.mem_cons, List.not_mem_nil, or_false] at hv
      rcases hv with rfl | rfl | rfl <;> rfl)
  rw [Nat.add_zero] at hst
  simp [Builtin.clear_, run_underlying Try.underlying26, hz, hzc, hst]
set_option maxRecDepth 100000 in
set_option maxHeartbeats 2000000 in
theorem del_h {w : World} {r c : Nat} {cur : Array Value} (hx : Bx w r 36 cur) (i k : Nat) (hn : i + 1 + k ≤ c) (hc : c ≤ maxLen) (hsz : cur.size = c * 3) (h1 : ∀ (j : Nat) (u : Value), j < (i + 1 + k) * 3 → cur[j]? = some u → u.oneCell' = true) :
    Calls Try.prog 40 #[.slice (some ⟨r, 0, none⟩) (i + 1 + k) c, .int .i64 i, .int .i64 ((i : Int) + 1)] w fun e w' => e = .returned (.slice (some ⟨r, 0, none⟩) (i + k) c) ∧ Bx w' r 36 (delC cur i k) ∧ w.grownBy w' (some r) := by
  unfold maxLen at hc
  obtain ⟨i0, hi0, hz0, hz1, hz2⟩ := info_parts info36
  have hlen : (newsL cur i k).length = k * 3 := by
    unfold newsL
    rw [List.length_take, List.length_drop, show cur.toList.length = cur.size from rfl, hsz]
    omega
  have hget : ∀ (j : Nat) (u : Value), (newsL cur i k)[j]? = some u → j < k * 3 ∧ cur[(i + 1) * 3 + j]? = some u := by
    intro j u hu
    have hj : j < k * 3 := by
      have := (List.getElem?_eq_some_iff.1 hu).1
      rwa [hlen] at this
    refine ⟨hj, ?_⟩
    unfold newsL at hu
    rw [List.getElem?_take, if_pos hj, List.getElem?_drop] at hu
    simpa using hu
  obtain ⟨A, hA, hsrc⟩ : ∃ A : Addr, (if c = i + 1 then some (⟨r, 0, none⟩ : Addr) else some ⟨r, (i + 1) * 3, none⟩) = some A ∧ Aside0 (∀ j u, (newsL cur i k)[j]? = some u → w.drew.cell? (A.add j) = some u) := by
    by_cases h : c = i + 1
    · refine ⟨⟨r, 0, none⟩, by simp [h], ⟨fun j u hu => ?_⟩⟩
      have := (hget j u hu).1
      omega
    · refine ⟨⟨r, (i + 1) * 3, none⟩, by simp [h], ⟨fun j u hu => ?_⟩⟩
      rw [Addr.add_lit]
      exact (hx.cell _).trans (hget j u hu).2
  have s1 := Aside0.mk (show (newsL cur i k).length = k * 3 from hlen)
  have s2 : Aside0 (∀ u ∈ newsL cur i k, u.oneCell' = true) := ⟨fun u hu => by
    obtain ⟨j, hj⟩ := List.getElem?_of_mem hu
    exact h1 _ u (by have := (hget j u hj).1; omega) (hget j u hj).2⟩
  have s3 : Aside0 (∀ j, j < (newsL cur i k).length → (w.drew.cell? ⟨r, 0 + i * 3 + j, none⟩).isSome = true ∧ w.drew.frozen? ⟨r, 0 + i * 3 + j, none⟩ = false) := ⟨fun j hj => by
    rw [hlen] at hj
    rw [Nat.zero_add]
    refine ⟨?_, hx.fz _⟩
    have e := hx.cell (i * 3 + j)
    show (w.cell? _).isSome = true
    rw [e, Array.getElem?_eq_getElem (by omega)]
    rfl⟩
  obtain ⟨W1, hW1⟩ : ∃ W1, W1 = w.drew.setCells r (0 + i * 3) (newsL cur i k) := ⟨_, rfl⟩
  have hx1 : Bx W1 r 36 (setL cur (i * 3) (newsL cur i k)) := by
    rw [hW1, Nat.zero_add]
    have hxd : Bx w.drew r 36 cur := hx
    exact hxd.setCells _ _
  have hg1 : w.grownBy W1 (some r) := by
    rw [hW1]
    exact setCells_grown _ _ ⟨rfl, rfl, rfl, Nat.le_refl _, fun _ _ _ => rfl⟩
  have hcl : ∀ ty, (Builtin.clear_ #[26] ty #[.slice (some ⟨r, (i + k) * 3, none⟩) (i + 1 + k - (i + k)) (c - (i + k))]).run Try.prog W1 = .ok (.tuple #[]) (W1.setCells r ((i + k) * 3) zLet) := fun ty => by
    rw [show i + 1 + k - (i + k) = 1 by omega]
    exact run_clear_let hx1 (by rw [setL_size, hsz]; omega) ty
  have HX1 := Aside0.mk hx1
  have HG1 := Aside0.mk hg1
  have HW := Aside0.mk hW1
  have hw0 : (0 : Int) ≤ (i : Int) + 1 := by omega
  have hw1 : ((i : Int) + 1).toNat = i + 1 := by omega
  have hw2 : i + 1 + k - (i + 1) = k := by omega
  have hw3 : (i : Int) + 1 ≤ (i : Int) + 1 + (k : Int) := by omega
  have hic : i ≤ c := by omega
  have hjc : i + 1 ≤ c := by omega
  have hck : ¬ c = i + k := by omega
  clear hW1 hx1 hg1 hget hlen hx h1 hsz
  go_enter Try.func40, Try.ntmps40
  go_wp2_with fail
  go_region_law (refine step_append_room rfl (.tmp 22) (.tmp 25) 26 rfl 36 i0 3 Try.underlying26 hi0 hz1 r 0 i c (by simp [Act.eval, Act.put]) A k (c - (i + 1)) (newsL cur i k) (by simp [Act.eval, Act.put]) s1.out hsrc.out s2.out (by omega) s3.out ?_; rw [← HW.out])
  go_wp2
  go_ret
  exact ⟨rfl, HX1.out.setCells _ _, setCells_grown _ _ HG1.out⟩
theorem one_of_la {w : World} {base : Nat} {cur : Array Value} {L : List Lt} (hla : ∀ j (hj : j < L.length), LetAt w base cur (j * 3) L[j]) (j : Nat) (u : Value) (hj : j < L.length * 3) (hu : cur[j]? = some u) : u.oneCell' = true := by
  obtain ⟨v, a0, a1, a2, av⟩ := hla (j / 3) (by omega)
  rcases (show j = j / 3 * 3 ∨ j = j / 3 * 3 + 1 ∨ j = j / 3 * 3 + 2 by omega) with h | h | h
  · rw [h, a0] at hu; cases hu; rfl
  · rw [h, a1] at hu
    cases hu
    obtain ⟨A, c, rfl⟩ := av.slice
    rfl
  · rw [h, a2] at hu; cases hu; rfl
/-- the letters that are left -/
theorem delC_at {w : World} {base : Nat} {cur : Array Value} {L : List Lt} {c i k : Nat} (hk : L.length = i + 1 + k) (hn : L.length ≤ c) (hsz : cur.size = c * 3) (hla : ∀ j (hj : j < L.length), LetAt w base cur (j * 3) L[j]) :
    ∀ j (hj : j < (L.eraseIdx i).length), LetAt w base (delC cur i k) (j * 3) (L.eraseIdx i)[j] := by
  intro j hj
  have hlen : (L.eraseIdx i).length = i + k := by rw [List.length_eraseIdx]; split <;> omega
  rw [hlen] at hj
  have hnl : (newsL cur i k).length = k * 3 := by
    unfold newsL
    rw [List.length_take, List.length_drop, show cur.toList.length = cur.size from rfl, hsz]
    omega
  by_cases hji : j < i
  · have e : (L.eraseIdx i)[j]'(by rw [hlen]; exact hj) = L[j]'(by omega) := by rw [List.getElem_eraseIdx]; simp [hji]
    rw [e]
    obtain ⟨v, a0, a1, a2, av⟩ := hla j (by omega)
    have g : ∀ q, q < 3 → (delC cur i k)[j * 3 + q]? = cur[j * 3 + q]? := by
      intro q hq
      unfold delC
      rw [setL_out _ _ _ _ (by omega), setL_out _ _ _ _ (by omega)]
    exact ⟨v, (g 0 (by omega)).trans a0, (g 1 (by omega)).trans a1, (g 2 (by omega)).trans a2, av⟩
  · have e : (L.eraseIdx i)[j]'(by rw [hlen]; exact hj) = L[j + 1]'(by omega) := by rw [List.getElem_eraseIdx]; simp [hji]
    rw [e]
    obtain ⟨v, a0, a1, a2, av⟩ := hla (j + 1) (by omega)
    have g : ∀ q, q < 3 → (delC cur i k)[j * 3 + q]? = cur[(j + 1) * 3 + q]? := by
      intro q hq
      unfold delC
      obtain ⟨t, rfl⟩ : ∃ t, j = i + t := ⟨j - i, by omega⟩
      rw [setL_out _ _ _ _ (by omega), show (i + t) * 3 + q = i * 3 + (t * 3 + q) by omega, setL_in _ _ _ _ (by rw [hnl]; omega) (by rw [hsz]; omega)]
      unfold newsL
      rw [List.getElem?_take, if_pos (by omega), List.getElem?_drop, show (i + 1) * 3 + (t * 3 + q) = (i + t + 1) * 3 + q by omega]
      simp
    exact ⟨v, (g 0 (by omega)).trans a0, (g 1 (by omega)).trans a1, (g 2 (by omega)).trans a2, av⟩
end Go.Proofs.Ytgmbleaecfmfiaa.Given
