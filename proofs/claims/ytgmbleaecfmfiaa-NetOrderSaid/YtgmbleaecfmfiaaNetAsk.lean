/- THE CONTRACT OF net.Net.ask: nil, no such place, a place. No condition beyond what each says. -/
import Derived.Test.YtgmbleaecfmfiaaNetOps
namespace Go.Proofs.Ytgmbleaecfmfiaa.Given
open Go.RowKit Go.Proofs.YtgmbleaecfmfiaaW.PrintWords Go.Proofs.YtgmbleaecfmfiaaW.PrintLast Go.Proofs.YtgmbleaecfmfiaaW.PrintMore Go.Proofs.Ytgmbleaecfmfiaa.PS
set_option linter.unusedVariables false
set_option maxRecDepth 100000 in
theorem ask_nil (w : World) (i : Int) (fv : Value) : Calls Try.prog 30 #[.pointer none, .int .i64 i, fv] w fun e w' => e = .returned (.int .i64 1) ∧ w' = w := by
  go_enter Try.func30, Try.ntmps30
  go_wp2
  go_ret
  exact ⟨rfl, rfl⟩
set_option maxRecDepth 100000 in
theorem ask_out {w : World} {g n c : Nat} {A : Option Addr} (hx : Bx w g 28 #[.slice A n c]) (i : Int) (fv : Value) (hi : i < 0 ∨ (n : Int) ≤ i) : Calls Try.prog 30 #[.pointer (some ⟨g, 0, none⟩), .int .i64 i, fv] w fun e w' => e = .returned (.int .i64 17) ∧ w' = w := by
  have q := hx.cell 0
  have hlt := hx.lt
  clear hx
  by_cases h0 : i < 0
  · have hd : decide (i < 0) = true := decide_eq_true h0
    go_enter Try.func30, Try.ntmps30
    go_wp2
    go_ret
    exact ⟨rfl, rfl⟩
  · have hd : decide (i < 0) = false := decide_eq_false h0
    have h1 : (n : Int) ≤ i := by omega
    have hd2 : decide ((n : Int) ≤ i) = true := decide_eq_true h1
    go_enter Try.func30, Try.ntmps30
    go_wp2
    go_ret
    exact ⟨rfl, rfl⟩
set_option maxRecDepth 100000 in
theorem ask_in {w : World} {g r n c : Nat} (hx : Bx w g 28 #[.slice (some ⟨r, 0, none⟩) n c]) (i : Nat) (hi : i < n) (f : FuncId) (caps : Array Value) (hen : ∀ args w, (callFunc f args).run Try.prog w = .ok (.enter f args) w) {Q : Int → World → Prop}
    (hc : Calls Try.prog f (#[.pointer (some ⟨r, i * 3, none⟩)] ++ caps) w fun e w' => ∃ k : Int, e = .returned (.int .i64 k) ∧ Q k w') :
    Calls Try.prog 30 #[.pointer (some ⟨g, 0, none⟩), .int .i64 i, .func (.func f) #[] caps] w fun e w' => ∃ k : Int, e = .returned (.int .i64 k) ∧ Q k w' := by
  have q := hx.cell 0
  have hlt := hx.lt
  have HC := Aside0.mk hc
  have hd : decide ((n : Int) ≤ (i : Int)) = false := decide_eq_false (by omega)
  clear hx hc
  go_enter Try.func30, Try.ntmps30
  go_wp2_with fail
  refine HC.out.mono ?_
  rintro e w1 ⟨k, rfl, hq⟩
  have HQ := Aside0.mk hq
  clear hq
  go_wp2
  go_ret
  exact ⟨_, rfl, HQ.out⟩
end Go.Proofs.Ytgmbleaecfmfiaa.Given
