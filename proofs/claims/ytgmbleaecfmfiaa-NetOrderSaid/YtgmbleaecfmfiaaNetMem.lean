/- A LETTER, A BAG OF LETTERS, A NET IN MEMORY; the contract of net.own. No condition beyond what each says. -/
import Derived.Test.YtgmbleaecfmfiaaFrSpoil
import Derived.Laws.EntriesVeiled
namespace Go.Proofs.Ytgmbleaecfmfiaa.Given
open Go.RowKit Go.Proofs.YtgmbleaecfmfiaaW.PrintWords Go.Proofs.YtgmbleaecfmfiaaW.PrintLast Go.Proofs.YtgmbleaecfmfiaaW.PrintMore Go.Proofs.Ytgmbleaecfmfiaa.PS
set_option linter.unusedVariables false
/-- a letter: to whom, the frame, is it spoilt? -/
structure Lt where
  who : Nat
  fr : List UInt8
  sp : Bool
def dF : Kd (Int × List Int × Bool) := Kd.pair (Kd.int .u64) (Kd.pair (Kd.slice 5 (Kd.int .u8)) Kd.bool)
def dL : Kd Lt := Kd.iso dF fun l => ((l.who : Int), nB l.fr, l.sp)
theorem M_let {w : World} {base : Nat} {ok : Nat → Prop} {l : Lt} {cs : List Value} : dL.M w base ok l cs ↔ ∃ v, cs = [.int .u64 (l.who : Int), v, .bool l.sp] ∧ (Kd.int .u8).R 5 w base ok v (nB l.fr) := by
  constructor
  · rintro ⟨c0, c1, rfl, h0, c2, c3, rfl, ⟨v, rfl, hr⟩, h3⟩
    have e0 : c0 = [Value.int .u64 (l.who : Int)] := h0
    have e3 : c3 = [Value.bool l.sp] := h3
    subst e0
    subst e3
    exact ⟨v, rfl, hr⟩
  · rintro ⟨v, rfl, hr⟩
    exact ⟨[.int .u64 (l.who : Int)], [v, .bool l.sp], rfl, rfl, [v], [.bool l.sp], rfl, ⟨v, rfl, hr⟩, rfl⟩
theorem K_let {w : World} {l : Lt} {cs : List Value} : dL.K w l cs ↔ ∃ v, cs = [.int .u64 (l.who : Int), v, .bool l.sp] ∧ Rd w v l.fr := by
  constructor
  · rintro ⟨c0, c1, rfl, h0, c2, c3, rfl, ⟨A, c, rfl, hl, hr⟩, h3⟩
    have e0 : c0 = [Value.int .u64 (l.who : Int)] := h0
    have e3 : c3 = [Value.bool l.sp] := h3
    subst e0
    subst e3
    exact ⟨_, rfl, ⟨A, c, by rw [nB_length], by rw [nB_length] at hl; exact hl, by rw [nB_length] at hr; exact hr⟩⟩
  · rintro ⟨v, rfl, ⟨A, c, rfl, hl, hr⟩⟩
    exact ⟨[.int .u64 (l.who : Int)], [.slice A l.fr.length c, .bool l.sp], rfl, rfl, [.slice A l.fr.length c], [.bool l.sp], rfl, ⟨A, c, by rw [nB_length], by rw [nB_length]; exact hl, by rw [nB_length]; exact hr⟩, rfl⟩
/-- a row of letters of the call's own -/
def Bag (w : World) (base : Nat) (v : Value) (L : List Lt) : Prop := dL.R 36 w base (fun _ => True) v L
theorem Bag.below {w w1 : World} {base : Nat} {v : Value} {L : List Lt} (h : Bag w base v L) (hb : Below w.heap.size w w1) : Bag w1 base v L := Kd.R_below h hb
theorem Bag.lower {w : World} {base base1 : Nat} {v : Value} {L : List Lt} (h : Bag w base v L) (hb : base1 ≤ base) : Bag w base1 v L := Kd.R_lower h hb
theorem Bag.nil (w : World) (base : Nat) : Bag w base (.slice none 0 0) [] := Kd.R_nil _ _ _ _ _
theorem Bag.slice {w : World} {base : Nat} {v : Value} {L : List Lt} (h : Bag w base v L) : ∃ A c, v = .slice A L.length c := Kd.R_slice h
/-- the letter at a place: its cells, its frame a row of the call's own -/
theorem Bag.at {w : World} {base n c : Nat} {A : Option Addr} {L : List Lt} (h : Bag w base (.slice A n c) L) (i : Nat) (hi : i < L.length) :
    ∃ g v, A = some ⟨g, 0, none⟩ ∧ w.cell? ⟨g, i * 3, none⟩ = some (.int .u64 (L[i].who : Int)) ∧ w.cell? ⟨g, i * 3 + 1, none⟩ = some v ∧ w.cell? ⟨g, i * 3 + 2, none⟩ = some (.bool L[i].sp) ∧ Own w base v L[i].fr := by
  obtain ⟨_, inner, ho, hr⟩ := h
  obtain ⟨hr1, hr2⟩ := hr
  have hm := hr2 i L[i] (List.getElem?_eq_getElem hi)
  obtain ⟨v, hcs, hv⟩ := M_let.1 hm
  have hsz : dL.sz = 3 := rfl
  rw [hsz] at hcs ho hr1
  have hcell : ∀ j, j < 3 → inner[i * 3 + j]? = [Value.int .u64 (L[i].who : Int), v, .bool L[i].sp][j]? := by
    intro j hj
    rw [← hcs, List.getElem?_take, if_pos hj, List.getElem?_drop]
  rcases ho.2 with ⟨_, h0⟩ | ⟨g, cap, cur, hsl, hb, hh, _, _, _, hcur⟩
  · omega
  · cases hsl
    have hc : ∀ j, j < 3 → w.cell? ⟨g, i * 3 + j, none⟩ = [Value.int .u64 (L[i].who : Int), v, .bool L[i].sp][j]? := by
      intro j hj
      rw [← hcell j hj, ← hcur, List.getElem?_take, if_pos (by omega)]
      simp [World.cell?, hh]
    exact ⟨g, v, rfl, hc 0 (by omega), hc 1 (by omega), hc 2 (by omega), Kd.R_mono hv (fun _ _ => trivial)⟩
/-! ### a block that is known whole -/
def Bx (w : World) (g : Nat) (t : TypeId) (cs : Array Value) : Prop := w.heap[g]? = some (.cells cs t (0, 0))
theorem Bx.lt {w : World} {g : Nat} {t : TypeId} {cs : Array Value} (h : Bx w g t cs) : g < w.heap.size := (Array.getElem?_eq_some_iff.1 h).1
theorem Bx.cell {w : World} {g : Nat} {t : TypeId} {cs : Array Value} (h : Bx w g t cs) (i : Nat) : w.cell? ⟨g, i, none⟩ = cs[i]? := by
  unfold Bx at h
  simp [World.cell?, h]
theorem Bx.fz {w : World} {g : Nat} {t : TypeId} {cs : Array Value} (h : Bx w g t cs) (i : Nat) : w.frozen? ⟨g, i, none⟩ = false := by
  unfold Bx at h
  simp [World.frozen?, h]
theorem Bx.below {w w1 : World} {B g : Nat} {t : TypeId} {cs : Array Value} (h : Bx w g t cs) (hb : Below B w w1) (hg : g < B) : Bx w1 g t cs := (hb.block g hg).trans h
theorem Bx.set {w : World} {g : Nat} {t : TypeId} {cs : Array Value} (h : Bx w g t cs) (i : Nat) (u : Value) : Bx (w.setCell ⟨g, i, none⟩ u) g t (cs.setIfInBounds i u) := by
  unfold Bx at h ⊢
  simp [World.setCell, Array.getElem?_modify, h]
theorem Bx.far {w : World} {g : Nat} {t : TypeId} {cs : Array Value} (h : Bx w g t cs) {p : Addr} (hp : g ≠ p.block) (u : Value) : Bx (w.setCell p u) g t cs := (Below.heap_setCell w p u g hp).trans h
theorem Bx.new (w : World) (t : TypeId) (cs : Array Value) : Bx (w.alloc (.cells cs t)) w.heap.size t cs := heap_alloc_new w _
theorem Bx.alloc {w : World} {g : Nat} {t : TypeId} {cs : Array Value} (h : Bx w g t cs) (o : Obj) : Bx (w.alloc o) g t cs := (Below.heap_alloc w o g h.lt).trans h
theorem Bx.ne {w : World} {g g' : Nat} {t t' : TypeId} {cs cs' : Array Value} (h : Bx w g t cs) (h' : Bx w g' t' cs') (hne : t ≠ t') : g ≠ g' := by
  rintro rfl
  unfold Bx at h h'
  rw [h] at h'
  injection h' with h'
  injection h' with _ ht
  exact hne ht
theorem Own.slice {w : World} {base : Nat} {v : Value} {bs : List UInt8} (h : Own w base v bs) : ∃ A c, v = .slice A bs.length c := by
  obtain ⟨A, c, e⟩ := Kd.R_slice h
  rw [nB_length] at e
  exact ⟨A, c, e⟩
theorem box2 {w W : World} {c1 c2 : Array Value} {t1 t2 : TypeId} (hW : (w.alloc (.cells c1 t1)).alloc (.cells c2 t2) = W) : Bx W w.heap.size t1 c1 ∧ Bx W (w.heap.size + 1) t2 c2 ∧ Below w.heap.size w W ∧ W.heap.size = w.heap.size + 2 := by
  subst hW
  have h2 := Bx.new (w.alloc (.cells c1 t1)) t2 c2
  have e : (w.alloc (.cells c1 t1)).heap.size = w.heap.size + 1 := by simp
  rw [e] at h2
  exact ⟨(Bx.new w t1 c1).alloc _, h2, ((Below.refl _ _).alloc (Nat.le_refl _) _).alloc (by simp) _, by simp⟩
theorem box1 {w W : World} {c1 : Array Value} {t1 : TypeId} (hW : w.alloc (.cells c1 t1) = W) : Bx W w.heap.size t1 c1 ∧ Below w.heap.size w W ∧ W.heap.size = w.heap.size + 1 := by
  subst hW
  exact ⟨Bx.new w t1 c1, (Below.refl _ _).alloc (Nat.le_refl _) _, by simp⟩
set_option maxRecDepth 100000 in
set_option maxHeartbeats 1000000 in
theorem letOwn_h {w : World} {v : Value} (l : Lt) (h : Rd w v l.fr) (hl : l.fr.length ≤ 140737488355328) :
    Calls Try.prog 29 #[.agg #[.int .u64 (l.who : Int), v, .bool l.sp]] w fun e w' => ∃ v' : Value, e = .returned (.agg #[.int .u64 (l.who : Int), v', .bool l.sp]) ∧ Own w' w.heap.size v' l.fr ∧ Below w.heap.size w w' := by
  have HV := Aside0.mk h
  have HL := Aside0.mk hl
  clear h hl
  go_enter Try.func29, Try.ntmps29
  go_wp2_with fail
  generalize hW : (World.alloc _ _) = W
  obtain ⟨hx1, hx2, hb0, hs0⟩ := box2 hW
  clear hW
  have hlt : w.heap.size + 1 < W.heap.size := by omega
  have HS0 := Aside0.mk hs0
  have HX1 := Aside0.mk hx1
  have HX2 := Aside0.mk hx2
  have HB0 := Aside0.mk hb0
  clear hs0 hx1 hx2 hb0
  refine (clone_h (HV.out.below HB0.out) HL.out).mono ?_
  rintro e w1 ⟨v1, rfl, ho1, hb1⟩
  obtain ⟨A1, c1, rfl⟩ := ho1.slice
  have hx1 := HX1.out.below hb1 (by omega)
  have hx2 := HX2.out.below hb1 (by omega)
  have q0 : w1.cell? ⟨w.heap.size, 0, none⟩ = some (.int .u64 (l.who : Int)) := hx1.cell 0
  have q1 : w1.cell? ⟨w.heap.size, 1, none⟩ = some v := hx1.cell 1
  have q2 : w1.cell? ⟨w.heap.size, 2, none⟩ = some (.bool l.sp) := hx1.cell 2
  have f1 := hx1.fz 1
  have p0 : w1.cell? ⟨w.heap.size + 1, 0, none⟩ = some (.int .u64 0) := hx2.cell 0
  have p1 : w1.cell? ⟨w.heap.size + 1, 1, none⟩ = some (.slice none 0 0) := hx2.cell 1
  have p2 : w1.cell? ⟨w.heap.size + 1, 2, none⟩ = some (.bool false) := hx2.cell 2
  have g0 := hx2.fz 0
  have g1 := hx2.fz 1
  have g2 := hx2.fz 2
  have HO1 := Aside0.mk ho1
  have HB1 := Aside0.mk hb1
  have HX2b := Aside0.mk hx2
  clear ho1 hb1 hx1 hx2
  go_wp2
  generalize hW2 : World.setCell _ _ _ = W2
  have hx : Bx W2 (w.heap.size + 1) 36 #[.int .u64 (l.who : Int), .slice A1 l.fr.length c1, .bool l.sp] := by
    rw [← hW2]
    exact ((((HX2b.out.far (p := ⟨w.heap.size, 1, none⟩) (by simp) _).set 0 _).set 1 _).set 2 _)
  have hO2 : Own W2 W.heap.size (.slice A1 l.fr.length c1) l.fr := by
    rw [← hW2]
    refine Own.far (Own.far (Own.far (Own.far HO1.out ?_ _) ?_ _) ?_ _) ?_ _
    all_goals (simp; omega)
  have hB2 : Below w.heap.size w W2 := by
    rw [← hW2]
    refine Below.setCell (Below.setCell (Below.setCell (Below.setCell (chain HB0.out HB1.out) ?_ _) ?_ _) ?_ _) ?_ _
    all_goals simp
  have q0 := hx.cell 0
  have q1 := hx.cell 1
  have q2 := hx.cell 2
  exact bodyPost_ret (v := .agg #[.int .u64 (l.who : Int), .slice A1 l.fr.length c1, .bool l.sp]) (by simp [results, Try.results29, go_sem, q0, q1, q2]) rfl ⟨_, rfl, hO2.lower (by have := HB0.out.size; omega), hB2⟩
end Go.Proofs.Ytgmbleaecfmfiaa.Given
