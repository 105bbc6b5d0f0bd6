/- THE CONTRACT OF keys.End, OF TEXTS. No condition beyond what it says. -/
import Derived.Test.YtpbnppfipinomaaDoorKTurn
import Derived.WalkMore
import Derived.Laws.IdiomStrings
import Derived.Laws.BytesArg
import Derived.Laws.AppendOwn
namespace Go.Proofs.YtpbnppfipinomaaDoor.Given
open Go.RowKit Go.Shelf Go.Proofs.YtpbnppfipinomaaDoorW.PrintWords
set_option linter.unusedSimpArgs false
/-- the end of a beginning, its bytes from the last one on -/
def endR : List UInt8 → Option (List UInt8)
  | [] => none
  | b :: t => if b = 255 then endR t else some ((b + 1) :: t)
def endL (p : List UInt8) : Option (List UInt8) := (endR p.reverse).map List.reverse
theorem endL_all (p : List UInt8) (b : UInt8) : endL (p ++ [b]) = if b = 255 then endL p else some (p ++ [b + 1]) := by
  have e : (p ++ [b]).reverse = b :: p.reverse := by simp
  have e2 : endR (b :: p.reverse) = if b = 255 then endR p.reverse else some ((b + 1) :: p.reverse) := rfl
  unfold endL
  rw [e, e2]
  by_cases h : b = 255
  · rw [if_pos h, if_pos h]
  · rw [if_neg h, if_neg h]
    simp
theorem bytes_cells (w : World) (p : ByteArray) (c : Nat) (W : World) (t : TypeId) (hW : (w.alloc (.cells (bytesRow p c) t ((bytesRow p c).size, (bytesRow p c).size + 1))).drew = W) :
    (∀ (i : Nat) (h : i < p.data.toList.length), W.cell? ⟨w.heap.size, i, none⟩ = some (.int .u8 (p.data.toList[i].toNat : Int)) ∧ W.frozen? ⟨w.heap.size, i, none⟩ = false) ∧ Below w.heap.size w W ∧ W.heap.size = w.heap.size + 1 := by
  subst hW
  have hh : ((w.alloc (.cells (bytesRow p c) t ((bytesRow p c).size, (bytesRow p c).size + 1))).drew).heap[w.heap.size]? = some (.cells (bytesRow p c) t ((bytesRow p c).size, (bytesRow p c).size + 1)) := by
    show (w.heap.push _)[w.heap.size]? = some _
    exact Array.getElem?_push_size
  refine ⟨fun i h => ⟨?_, ?_⟩, ((Below.refl _ _).alloc (Nat.le_refl _) _).drew, by simp⟩
  · simp only [World.cell?, hh]
    have h1 : i < p.data.size := by simpa using h
    simp [bytesRow, Array.getElem?_append, show i < p.size from h1]
  · simp only [World.frozen?, hh]
    have h1 : i < p.data.size := by simpa using h
    have h3 : (bytesRow p c).size = p.data.size + (c - p.size) := by simp [bytesRow]
    simp
    omega
theorem strOfNums_bytes (L : List UInt8) : strOfNums (L.map fun b => (b.toNat : Int)) = ⟨L.toArray⟩ := by
  unfold strOfNums
  rw [List.map_map, List.map_congr_left (g := id) (fun b _ => by simp), List.map_id]
theorem conv_back {w : World} {g cap : Nat} (P : List UInt8) (m : Nat) (hm : m < P.length) (hc : ∀ (i : Nat) (h : i < P.length), w.cell? ⟨g, i, none⟩ = some (.int .u8 (P[i].toNat : Int))) :
    (convert 41 9 (.slice (some ⟨g, 0, none⟩) (m + 1) cap)).run Tryd.prog (w.setCell ⟨g, m, none⟩ (.int .u8 (((P[m].toNat : Int) + 1) % 256))) = .ok (.string ⟨(P.take m ++ [P[m] + 1]).toArray⟩) (w.setCell ⟨g, m, none⟩ (.int .u8 (((P[m].toNat : Int) + 1) % 256))) := by
  have hl : ((P.take m ++ [P[m] + 1]).map fun b => (b.toNat : Int)).length = m + 1 := by simp; omega
  have := run_convert_bytes_arg (P := Tryd.prog) (w.setCell ⟨g, m, none⟩ (.int .u8 (((P[m].toNat : Int) + 1) % 256))) 41 5 Tryd.underlying41 Tryd.underlying5 g 0 (m + 1) cap _ hl (fun i hi => by
    rw [Nat.zero_add]
    by_cases him : i = m
    · subst him
      rw [World.cell?_setCell_same (h := hc i hm)]
      have e : (((P[i] + 1 : UInt8).toNat : Nat) : Int) = ((P[i].toNat : Int) + 1) % 256 := by rw [UInt8.toNat_add]; simp
      rw [← e]
      have hl2 : (P.take i).length = i := by rw [List.length_take]; omega
      simp [List.getD, List.getElem?_append, hl2, Nat.min_eq_left (Nat.le_of_lt hm)]
    · have hi2 : i < m := by omega
      rw [World.cell?_setCell_other (h := show (⟨g, m, none⟩ : Addr) ≠ ⟨g, i, none⟩ from fun e => him (by cases e; rfl)), hc i (by omega)]
      have hl2 : (P.take m).length = m := by rw [List.length_take]; omega
      simp [List.getD, List.getElem?_append, hi2, Nat.min_eq_left (Nat.le_of_lt hm), show i < P.length by omega]) 9 Tryd.underlying9
  rw [strOfNums_bytes] at this
  exact this
set_option maxRecDepth 100000 in
set_option maxHeartbeats 1000000 in
theorem end_h (p : ByteArray) (w : World) (hs : p.size ≤ 140737488355327) :
    Calls Tryd.prog 13 #[.string p] w fun e w' => e = .returned (.tuple #[.string ⟨((endL p.data.toList).getD []).toArray⟩, .bool (endL p.data.toList).isSome]) ∧ Below w.heap.size w w' := by
  have hcv := fun W => run_bytes_of_string (P := Tryd.prog) W 9 41 5 p Tryd.underlying9 Tryd.underlying41 Tryd.underlying5
  obtain ⟨R, hR⟩ : ∃ R, endL p.data.toList = R := ⟨_, rfl⟩
  rw [hR]
  have HR := Aside0.mk hR
  clear hR
  go_enter Tryd.func13, Tryd.ntmps13
  go_wp2_with fail
  go_step3
  go_wp2_with fail
  go_step3
  go_wp2_with fail
  generalize hW1 : World.drew _ = W1
  obtain ⟨hcl, hb, hsz⟩ := bytes_cells w p _ W1 _ hW1
  clear hW1 hcv
  have hcap : p.size ≤ grownCap w p.size 0 5 := grownCap_ge w _ _ _
  generalize grownCap w p.size 0 5 = cap at *
  have hpl : p.size = p.data.toList.length := rfl
  generalize hP : p.data.toList = P at *
  generalize hn : p.size = n at *
  have HCL := Aside0.mk hcl
  have B1 := Aside0.mk hb
  clear hcl hb
  go_loopw [2, 3, 5] (fun ee hh kk wr => ∃ (j : Nat), j ≤ n ∧ ee = .string ⟨#[]⟩ ∧ hh = .bool false ∧ kk = .int .i64 ((j : Int) - 1) ∧ Aside0 (endL (P.take j) = R) ∧ wr = W1) (fun _ _ kk _ => (intOf kk + 1).toNat)
  case atStart => exact ⟨n, by omega, rfl, rfl, rfl, ⟨by rw [hpl, List.take_length]; exact HR.out⟩, rfl⟩
  case round =>
    obtain ⟨j, hj, rfl, rfl, rfl, HE, rfl⟩ := hrel
    cases j with
    | zero =>
      have he : R = none := by rw [← HE.out]; rfl
      subst he
      go_wp2
      rw [Exit.noGoto_ret]
      go_ret2
      exact ⟨rfl, B1.out⟩
    | succ m =>
      have hk : (((m + 1 : Nat) : Int) - 1) = (m : Int) := by omega
      rw [hk]
      have hml : m < P.length := by omega
      have hce := (HCL.out m hml).1
      have hfz := (HCL.out m hml).2
      have htk : P.take (m + 1) = P.take m ++ [P[m]] := by rw [List.take_add_one, List.getElem?_eq_getElem hml]; rfl
      have hE := HE.out
      rw [htk, endL_all] at hE
      by_cases hb : P[m] = 255
      · have hd : ((P[m].toNat : Int) == 255) = true := by rw [hb]; rfl
        rw [if_pos hb] at hE
        have HE2 := Aside0.mk hE
        clear hE htk hb
        generalize P[m].toNat = b8 at *
        go_wp2_with fail
        refine ⟨⟨m, by omega, rfl, rfl, rfl, HE2, trivial⟩, ?_⟩
        simp [intOf]
      · have hd : ((P[m].toNat : Int) == 255) = false := beq_eq_false_iff_ne.mpr (fun e => hb (UInt8.toNat_inj.mp (by simp; omega)))
        rw [if_neg hb] at hE
        have hcv2 := conv_back (w := wr) (g := w.heap.size) (cap := cap) P m hml (fun i h => (HCL.out i h).1)
        have HB2 := Aside0.mk (B1.out.setCell (p := ⟨w.heap.size, m, none⟩) (Nat.le_refl _) (.int .u8 (((P[m].toNat : Int) + 1) % 256)))
        subst hE
        clear htk hb
        have hmc : m + 1 ≤ cap := by omega
        go_wp2
        rw [Exit.noGoto_ret]
        go_ret2
        exact ⟨rfl, HB2.out⟩
end Go.Proofs.YtpbnppfipinomaaDoor.Given
