/- A BAG OF LETTERS BY ITS CELLS: opened, put together again. No program's run. No condition beyond what each says. -/
import Derived.Test.YtgmbleaecfmfiaaNetAsk
namespace Go.Proofs.Ytgmbleaecfmfiaa.Given
open Go.RowKit Go.Proofs.YtgmbleaecfmfiaaW.PrintWords Go.Proofs.YtgmbleaecfmfiaaW.PrintLast Go.Proofs.YtgmbleaecfmfiaaW.PrintMore Go.Proofs.Ytgmbleaecfmfiaa.PS
set_option linter.unusedVariables false
/-- letter l's cells lie at k in cur; its frame is a row of the call's own -/
def LetAt (w : World) (base : Nat) (cur : Array Value) (k : Nat) (l : Lt) : Prop := ∃ v, cur[k]? = some (.int .u64 (l.who : Int)) ∧ cur[k + 1]? = some v ∧ cur[k + 2]? = some (.bool l.sp) ∧ Own w base v l.fr
theorem Own.typed {w : World} {base k : Nat} {v : Value} {bs : List UInt8} (h : Own w base v bs) (hk : v.ownBlock = some k) : ∃ cells, Bx w k 5 cells := by
  obtain ⟨_, inner, ho, _⟩ := h
  exact own_typed ho k hk
theorem Own.step {w w1 : World} {base : Nat} {v : Value} {bs : List UInt8} (h : Own w base v bs) (hm : ∀ k cells, Bx w k 5 cells → w1.heap[k]? = w.heap[k]?) : Own w1 base v bs := by
  have hb := Kd.R_bound h
  refine Kd.R_mono (Kd.R_move hb (fun k hk => ?_)) (fun _ _ => trivial)
  obtain ⟨_, _, _, q, hq, cells, hc⟩ := hk
  have hq' : q = 5 := by simpa [Kd.int, Kd.scalar] using hq
  subst hq'
  exact hm k cells hc
/-- a store into a block of another type -/
theorem Own.fart {w : World} {base g : Nat} {t : TypeId} {cs : Array Value} {v : Value} {bs : List UInt8} (h : Own w base v bs) (hx : Bx w g t cs) (ht : t ≠ 5) (j : Nat) (u : Value) : Own (w.setCell ⟨g, j, none⟩ u) base v bs :=
  h.step fun k cells hc => Below.heap_setCell _ _ _ _ (hc.ne hx ht.symm)
theorem Own.keep {w w1 : World} {base g : Nat} {t t2 : TypeId} {cs : Array Value} {row : Option Nat} {v : Value} {bs : List UInt8} (h : Own w base v bs) (hk : KeepBut w w1 g row) (hx : Bx w g t cs) (ht : t ≠ 5) (hr : ∀ k, row = some k → ∃ cells, Bx w k t2 cells) (ht2 : t2 ≠ 5) : Own w1 base v bs :=
  h.step fun k cells hc => hk.2 k hc.lt (hc.ne hx ht.symm) fun e => by
    obtain ⟨c2, h2⟩ := hr k e.symm
    exact hc.ne h2 ht2.symm rfl
theorem Bag.open {w : World} {base n c : Nat} {A : Option Addr} {L : List Lt} (h : Bag w base (.slice A n c) L) (hn : 0 < L.length) :
    ∃ r cur, n = L.length ∧ A = some ⟨r, 0, none⟩ ∧ Bx w r 36 cur ∧ base ≤ r ∧ n ≤ c ∧ c ≤ maxLen ∧ cur.size = c * 3 ∧ ∀ i (hi : i < L.length), LetAt w base cur (i * 3) L[i] := by
  obtain ⟨A', c', e⟩ := h.slice
  cases e
  have hat := fun i hi => h.at i hi
  obtain ⟨_, inner, ho, hr⟩ := h
  rcases ho.2 with ⟨_, h0⟩ | ⟨g, cap, cur, hsl, hb, hh, h1, h2, h3, hcur⟩
  · omega
  · cases hsl
    refine ⟨g, cur, rfl, rfl, hh, hb, h1, h2, h3, fun i hi => ?_⟩
    obtain ⟨g', v, e, c0, c1, c2, hv⟩ := hat i hi
    cases e
    have hx : Bx w g 36 cur := hh
    exact ⟨v, by rw [← hx.cell]; exact c0, by rw [← hx.cell]; exact c1, by rw [← hx.cell]; exact c2, hv⟩
theorem Bag.mk {w : World} {base r c : Nat} {cur : Array Value} {L : List Lt} (hx : Bx w r 36 cur) (hb : base ≤ r) (hn : L.length ≤ c) (hc : c ≤ maxLen) (hsz : cur.size = c * 3) (hl : ∀ i (hi : i < L.length), LetAt w base cur (i * 3) L[i]) : Bag w base (.slice (some ⟨r, 0, none⟩) L.length c) L := by
  refine ⟨fun _ _ => trivial, cur.toList.take (L.length * 3), ⟨?_, .inr ⟨r, c, cur, rfl, hb, hx, hn, hc, hsz, rfl⟩⟩, ?_, ?_⟩
  · rw [List.length_take, show cur.toList.length = cur.size from rfl, hsz]
    show min (L.length * 3) (c * 3) = L.length * 3
    omega
  · rw [List.length_take, show cur.toList.length = cur.size from rfl, hsz]
    show min (L.length * 3) (c * 3) = L.length * 3
    omega
  · intro i l hi
    obtain ⟨hlt, rfl⟩ := List.getElem?_eq_some_iff.1 hi
    obtain ⟨v, c0, c1, c2, hv⟩ := hl i hlt
    refine M_let.2 ⟨v, ?_, ?_⟩
    · show ((cur.toList.take (L.length * 3)).drop (i * 3)).take 3 = _
      have hlen : i * 3 + 3 ≤ L.length * 3 := by omega
      apply List.ext_getElem?
      intro j
      rw [List.getElem?_take, List.getElem?_drop, List.getElem?_take]
      rcases (show j = 0 ∨ j = 1 ∨ j = 2 ∨ 3 ≤ j by omega) with rfl | rfl | rfl | hj
      · rw [if_pos (by omega), if_pos (by omega)]; simpa using c0
      · rw [if_pos (by omega), if_pos (by omega)]; simpa using c1
      · rw [if_pos (by omega), if_pos (by omega)]; simpa using c2
      · rw [if_neg (by omega)]
        rcases j with _ | _ | _ | j <;> first | omega | rfl
    · have hb2 := Kd.R_bound hv
      refine Kd.R_mono hb2 (fun k hk => ⟨trivial, fun e => ?_⟩)
      obtain ⟨_, _, _, q, hq, cells, hcl⟩ := hk
      have hq' : q = 5 := by simpa [Kd.int, Kd.scalar] using hq
      subst hq'
      have e2 : k = r := by simpa [Value.ownBlock] using e
      subst e2
      exact Bx.ne (t := 5) (t' := 36) (cs := cells) hcl hx (by decide) rfl
/-- the bag keeps while other blocks change -/
theorem Bag.keep {w w1 : World} {base g : Nat} {t : TypeId} {cs : Array Value} {row : Option Nat} {v : Value} {L : List Lt} (h : Bag w base v L) (hk : KeepBut w w1 g row) (hx : Bx w g t cs) (ht : t ≠ 5) (ht3 : t ≠ 36)
    (hr : ∀ k, row = some k → ∃ cells, Bx w k 36 cells) (hne : ∀ k, row = some k → v.ownBlock ≠ some k) : Bag w1 base v L := by
  obtain ⟨A, c, rfl⟩ := h.slice
  rcases Nat.eq_zero_or_pos L.length with h0 | hp
  · have : L = [] := List.eq_nil_of_length_eq_zero h0
    subst this
    obtain ⟨_, inner, ho, hrp⟩ := h
    refine ⟨fun _ _ => trivial, inner, ?_, ?_⟩
    · refine own_move ho (fun k hk' => ?_)
      obtain ⟨cells, hc⟩ := own_typed ho k hk'
      have hcx : Bx w k 36 cells := hc
      exact hk.2 k hcx.lt (hcx.ne hx ht3.symm) (fun e => hne k e.symm hk')
    · exact ⟨hrp.1, fun j p hj => by simp at hj⟩
  · obtain ⟨r, cur, _, rfl, hxr, hb, h1, h2, h3, hl⟩ := h.open hp
    have hxr1 : Bx w1 r 36 cur := (hk.2 r hxr.lt (hxr.ne hx ht3.symm) (fun e => hne r e.symm rfl)).trans hxr
    refine Bag.mk hxr1 hb h1 h2 h3 (fun i hi => ?_)
    obtain ⟨v, c0, c1, c2, hv⟩ := hl i hi
    exact ⟨v, c0, c1, c2, hv.keep hk hx ht hr (by decide)⟩
end Go.Proofs.Ytgmbleaecfmfiaa.Given
