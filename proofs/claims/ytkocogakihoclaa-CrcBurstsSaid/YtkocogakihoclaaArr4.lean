/- AN ARGUMENT THAT IS AN ARRAY OF FOUR BYTES: what it is. No condition. -/
import Derived.Test.YtkocogakihoclaaProg
import Derived.ProofKit
import Derived.OpenShut
import Derived.Lib.SmallJoins
namespace Go.Proofs.Ytkocogakihoclaa.Given
open Go.ChangeShapes Go.WideShapes Go.ChangeAt Go.RowKit
theorem okWide_arr {P : Program} {w : World} {r : Reach} {base : Nat} {t e : TypeId} {n : Nat} {v : Value} (ht : P.underlying t = some (.array n e)) (h : Value.okWide P w r base t v) : ∃ cs, v = .agg cs ∧ cs.size = P.cellsOf t := by
  simp only [Value.okWide, ht] at h
  obtain ⟨cs, h1, h2, _⟩ := h
  exact ⟨cs, h1, h2⟩
theorem byte_of {x : Int} (h : (Lit.int .u8 x).wf = true) : ∃ m : UInt8, x = (m.toNat : Int) := by
  simp [Lit.wf, IntKind.min, IntKind.max, IntKind.signed, IntKind.bits] at h
  refine ⟨UInt8.ofNat x.toNat, ?_⟩
  rw [UInt8.toNat_ofNat']
  omega
theorem open_a4 {H : Type} {enc : TypeId × Value → H} {P : Program} {w : World} {base b0 : Nat} {spare : Nat → Bool} {held : Bool} {r : Reach} {t e : TypeId} {v : Value} {d : DataW H} {p : List MemPlace}
    (ht : P.underlying t = some (.array 4 e)) (he : P.underlying e = some (.int .u8)) (hc : P.cellsOf t = 4) (hce : P.cellsOf e = 1)
    (hv : Value.okWide P w r b0 t v) (h : DataW.Trod enc P w base spare held t v d p) : ∃ m : Nat → UInt8, v = .agg #[.int .u8 (m 0).toNat, .int .u8 (m 1).toNat, .int .u8 (m 2).toNat, .int .u8 (m 3).toNat] := by
  obtain ⟨cs, rfl, hsz⟩ := okWide_arr ht hv
  rw [hc] at hsz
  obtain ⟨c0, c1, c2, c3, rfl⟩ : ∃ c0 c1 c2 c3, cs = #[c0, c1, c2, c3] := by
    obtain ⟨l⟩ := cs
    match l, hsz with
    | [c0, c1, c2, c3], _ => exact ⟨c0, c1, c2, c3, rfl⟩
  obtain ⟨fuel, hf⟩ := h
  obtain ⟨xs, m, _, _, hl, hx, hi⟩ := DataW.trod_array ht hf
  rw [hce] at hi
  have key : ∀ (i : Nat) (c : Value), i < 4 → ((Value.agg #[c0, c1, c2, c3]).cells.toList.drop (i * 1)).take 1 = [c] → ∃ x : UInt8, c = .int .u8 (x.toNat : Int) := by
    intro i c hi4 hcc
    have := hi i hi4
    rw [hcc, List.getElem?_eq_getElem (by omega)] at this
    obtain ⟨n, e1, _, hw⟩ := DataW.trod_int he this
    obtain ⟨b, rfl⟩ := byte_of hw
    simp at e1
    exact ⟨b, e1⟩
  obtain ⟨m0, rfl⟩ := key 0 c0 (by omega) rfl
  obtain ⟨m1, rfl⟩ := key 1 c1 (by omega) rfl
  obtain ⟨m2, rfl⟩ := key 2 c2 (by omega) rfl
  obtain ⟨m3, rfl⟩ := key 3 c3 (by omega) rfl
  exact ⟨fun j => match j with | 0 => m0 | 1 => m1 | 2 => m2 | _ => m3, rfl⟩
end Go.Proofs.Ytkocogakihoclaa.Given
