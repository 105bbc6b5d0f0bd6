/- THE WALK OF THE LAW KeysLeast: it returns true. Condition: the library's tables; the texts' sizes. -/
import Derived.Test.YtpbnppfipinomaaDoorKRefMay
namespace Go.Proofs.YtpbnppfipinomaaDoor.Given
open Go.RowKit Go.Shelf Go.Proofs.YtpbnppfipinomaaDoorW.PrintWords
set_option linter.unusedVariables false
theorem endL_none (p : List UInt8) (h : endL p = none) : ∀ (i : Nat) (hi : i < p.length), p[i] = 255 := by
  induction p with
  | nil => intro i hi; simp at hi
  | cons a p ih =>
    rw [endL_cons] at h
    cases he : endL p with
    | some e => rw [he] at h; cases h
    | none =>
      rw [he] at h
      by_cases ha : a = 255
      · intro i hi
        cases i with
        | zero => exact ha
        | succ i => exact ih he i (by simpa using hi)
      · simp [ha] at h
theorem least1 (p rest e : List UInt8) (h : endL p = some e) : Op.bytesLess (p ++ rest) e = true := by
  have := within_prefix p (p ++ rest)
  rw [h] at this
  have h2 : p.isPrefixOf (p ++ rest) = true := by rw [isPrefixOf_take]; simp
  rw [h2] at this
  simp [within] at this
  exact this.2
theorem least2 (p k e : List UInt8) (h : endL p = some e) (h1 : Op.bytesLess k p = false) (h2 : Op.bytesLess k e = true) : p.isPrefixOf k = true := by
  have := within_prefix p k
  rw [h] at this
  rw [← this]
  simp [within, h1, h2]
set_option maxRecDepth 100000 in
set_option maxHeartbeats 2000000 in
theorem KeysLeast_walk (p rest other : ByteArray) (w : World) (hs : p.size ≤ 140737488351232) (hs2 : rest.size ≤ 140737488351232) (hs3 : other.size ≤ 140737488351232) (hT : Tabs w) : Calls Tryd.prog 5 #[.string p, .string rest, .string other] w fun e w' => e = .returned (.bool true) ∧ Below w.heap.size w w' := by
  have HT := Aside0.mk hT
  clear hT
  rcases he : endL p.data.toList with _ | e
  · have hall := endL_none _ he
    have hall2 : ∀ (i : Nat) (hi : i < p.size), p[i] = 255 := fun i hi => hall i hi
    have HALL := Aside0.mk hall2
    have HE := Aside0.mk he
    clear he hall hall2
    go_enter Tryd.func5, Tryd.ntmps5
    go_wp2_with fail
    refine (end_h p w (by omega)).mono ?_
    rintro e w1 ⟨rfl, hb⟩
    rw [HE.out]
    have C1 := Aside0.mk hb
    clear hb
    go_wp2_with fail
    go_loopw [9] (fun kk wr => ∃ i : Nat, i ≤ p.size ∧ kk = .int .i64 i ∧ wr = w1) (fun kk _ => p.size - (intOf kk).toNat)
    case atStart => exact ⟨0, by omega, rfl, rfl⟩
    case round =>
      obtain ⟨i, hi, rfl, rfl⟩ := hrel
      by_cases hlt : i < p.size
      · have hp := HALL.out i hlt
        have hd : ((p[i].toNat : Int) != 255) = false := by rw [hp]; rfl
        clear hp
        go_wp2_with fail
        refine ⟨⟨i + 1, by omega, by go_num, trivial⟩, ?_⟩
        simp [intOf]
        omega
      · obtain rfl : i = p.size := by omega
        go_wp2_with fail
        refine (known_h wr (HT.out.below C1.out)).mono ?_
        rintro e w2 ⟨rfl, hb⟩
        have C2 := Aside0.mk (chain C1.out hb)
        clear hb
        go_wp2
        go_ret
        exact ⟨rfl, C2.out⟩
  · have hl1 : Op.bytesLess (p ++ rest).toList e = true := by
      rw [ByteArray.toList_eq]
      have := least1 p.data.toList rest.data.toList e he
      simpa using this
    have hl2 : Op.bytesLess other.toList p.toList = false → Op.bytesLess other.toList e = true → p.data.toList.isPrefixOf other.data.toList = true := by
      intro h1 h2
      rw [ByteArray.toList_eq, ByteArray.toList_eq] at h1
      rw [ByteArray.toList_eq] at h2
      exact least2 _ _ e he h1 h2
    have hsz : (p ++ rest).size = p.size + rest.size := by simp
    have HE := Aside0.mk he
    have HP1 := Aside0.mk (pre1 other p)
    have HP2 := Aside0.mk (pre2 other p)
    clear he
    generalize hx : Op.bytesLess other.toList p.toList = x at *
    generalize hy : Op.bytesLess other.toList e = y at *
    have hpre : x = false → y = true → p.data.toList.isPrefixOf other.data.toList = true := hl2
    have fin : ∀ w1 : World, Below w.heap.size w w1 → Calls Tryd.prog 12 #[] w1 fun e w' => e = .returned (.bool true) ∧ Below w.heap.size w w' := fun w1 hb =>
      (known_h w1 (HT.out.below hb)).mono (fun e w' h => ⟨h.1, chain hb h.2⟩)
    have FIN := Aside0.mk fin
    have HPRE := Aside0.mk hpre
    clear fin hl2 hpre
    cases x
    · cases y
      · go_enter Tryd.func5, Tryd.ntmps5
        go_wp2_with fail
        refine (end_h p w (by omega)).mono ?_
        rintro e1 w1 ⟨rfl, hb⟩
        rw [HE.out]
        have C1 := Aside0.mk hb
        clear hb
        go_wp2_with fail
        refine (FIN.out w1 C1.out).mono ?_
        rintro e2 w2 ⟨rfl, hb⟩
        go_wp2
        go_ret
        exact ⟨rfl, hb⟩
      · have hq := HPRE.out rfl rfl
        have hle : p.size ≤ other.size := pre_size other p hq
        have hq2 := HP1.out.trans hq
        have hdl : decide ((p.size : Int) ≤ (other.size : Int)) = true := decide_eq_true (by omega)
        clear hq
        go_enter Tryd.func5, Tryd.ntmps5
        go_wp2_with fail
        refine (end_h p w (by omega)).mono ?_
        rintro e1 w1 ⟨rfl, hb⟩
        rw [HE.out]
        have C1 := Aside0.mk hb
        clear hb
        go_wp2_with fail
        refine (FIN.out w1 C1.out).mono ?_
        rintro e2 w2 ⟨rfl, hb⟩
        go_wp2
        go_ret
        exact ⟨rfl, hb⟩
    · go_enter Tryd.func5, Tryd.ntmps5
      go_wp2_with fail
      refine (end_h p w (by omega)).mono ?_
      rintro e1 w1 ⟨rfl, hb⟩
      rw [HE.out]
      have C1 := Aside0.mk hb
      clear hb
      go_wp2_with fail
      refine (FIN.out w1 C1.out).mono ?_
      rintro e2 w2 ⟨rfl, hb⟩
      go_wp2
      go_ret
      exact ⟨rfl, hb⟩
end Go.Proofs.YtpbnppfipinomaaDoor.Given
