/- THE CONTRACTS OF commonplaceref01.At AND commonplaceref01.Valid, OF TEXTS: what the model's own decoder says. No condition beyond what each says. WRITTEN BY wip/tools/refatgen.py -/
import Derived.Test.YtpbnppfipinomaaDoorProg
import Derived.Shelf.Lays
import Derived.Lib.MapLaws
import Derived.Lib.TrimUEq
import Derived.Lib.ValidLaws
import Derived.Lib.DecodeN
import Derived.WalkKit
import Derived.Below
import Derived.Test.YtpbnppfipinomaaDoorWWords
namespace Go.Proofs.YtpbnppfipinomaaDoor.Given
open Go.RowKit Go.Shelf Go.Lib Go.Proofs.YtpbnppfipinomaaDoorW.PrintWords
set_option linter.unusedVariables false
/-- the rune at a place, and its width; (0, 0): none begins there -/
def atR (s : ByteArray) (i : Nat) : Nat × Nat := if s.size ≤ i then (0, 0) else if (Utf8.decode s i).1 = 65533 ∧ (Utf8.decode s i).2 = 1 then (0, 0) else Utf8.decode s i
def byteN (s : ByteArray) (i : Nat) : Nat := (s.get! i).toNat
theorem byteN_eq (s : ByteArray) (i : Nat) (h : i < s.size) : s[i].toNat = byteN s i := by
  unfold byteN
  congr 1
  cases s with
  | mk d => exact (getElem!_pos d i h).symm
theorem byteN_lt (s : ByteArray) (i : Nat) : byteN s i < 256 := (s.get! i).toNat_lt
/-- what has been read of a rune: its lead's bits, and k - 1 bytes -/
def rr (s : ByteArray) (i : Nat) (base : Int) : Nat → Int
  | 0 => 0
  | 1 => (byteN s i : Int) - base
  | k + 2 => 64 * rr s i base (k + 1) + (byteN s (i + (k + 1)) : Int) - 128
def contN (b : Nat) : Prop := 128 ≤ b ∧ b < 192
theorem rr1 (s : ByteArray) (i : Nat) (base : Int) : rr s i base 1 = (byteN s i : Int) - base := rfl
theorem rr2 (s : ByteArray) (i : Nat) (base : Int) : rr s i base 2 = 64 * ((byteN s i : Int) - base) + (byteN s (i + 1) : Int) - 128 := rfl
theorem rr3 (s : ByteArray) (i : Nat) (base : Int) : rr s i base 3 = 64 * (64 * ((byteN s i : Int) - base) + (byteN s (i + 1) : Int) - 128) + (byteN s (i + 2) : Int) - 128 := rfl
theorem rr4 (s : ByteArray) (i : Nat) (base : Int) : rr s i base 4 = 64 * (64 * (64 * ((byteN s i : Int) - base) + (byteN s (i + 1) : Int) - 128) + (byteN s (i + 2) : Int) - 128) + (byteN s (i + 3) : Int) - 128 := rfl
theorem rr_succ (s : ByteArray) (i : Nat) (base : Int) (k : Nat) (hk : 1 ≤ k) : rr s i base (k + 1) = 64 * rr s i base k + (byteN s (i + k) : Int) - 128 := by
  obtain ⟨j, rfl⟩ : ∃ j, k = j + 1 := ⟨k - 1, by omega⟩
  rfl
theorem rr_bd (s : ByteArray) (i : Nat) (base : Int) (k : Nat) (h1 : 1 ≤ k) (h4 : k ≤ 4) (hb : base ≤ (byteN s i : Int) ∧ (byteN s i : Int) < base + 32) (hc : ∀ j, 1 ≤ j → j < k → contN (byteN s (i + j))) : 0 ≤ rr s i base k ∧ rr s i base k ≤ 8388607 := by
  have c1 := hc 1 (by omega)
  have c2 := hc 2 (by omega)
  have c3 := hc 3 (by omega)
  unfold contN at c1 c2 c3
  rcases (show k = 1 ∨ k = 2 ∨ k = 3 ∨ k = 4 by omega) with rfl | rfl | rfl | rfl
  · rw [rr1]; omega
  · have := c1 (by omega); rw [rr2]; omega
  · have := c1 (by omega); have := c2 (by omega); rw [rr3]; omega
  · have := c1 (by omega); have := c2 (by omega); have := c3 (by omega); rw [rr4]; omega
theorem decode_N (s : ByteArray) (i : Nat) : Utf8.decode s i = decodeN (s.size - i) (byteN s i) (byteN s (i + 1)) (byteN s (i + 2)) (byteN s (i + 3)) := decode_at s i
theorem atR_end (s : ByteArray) (i : Nat) (h : s.size ≤ i) : atR s i = (0, 0) := if_pos h
theorem atR_asc (s : ByteArray) (i : Nat) (h : i < s.size) (hc : byteN s i < 128) : atR s i = (byteN s i, 1) := by
  have e : Utf8.decode s i = (byteN s i, 1) := by rw [decode_N]; unfold decodeN; rw [if_pos hc]
  unfold atR
  rw [if_neg (by omega), e, if_neg (by simp only; omega)]
theorem atR_bad (s : ByteArray) (i : Nat) (e : Utf8.decode s i = (65533, 1)) : atR s i = (0, 0) := by
  unfold atR
  split
  · rfl
  · rw [e, if_pos ⟨rfl, rfl⟩]
theorem atR_lone (s : ByteArray) (i : Nat) (hc : 128 ≤ byteN s i ∧ byteN s i < 192 ∨ 248 ≤ byteN s i) : atR s i = (0, 0) := by
  have := byteN_lt s i
  apply atR_bad
  rw [decode_N]
  unfold decodeN
  rw [if_neg (by omega), if_neg (by omega), if_neg (by omega), if_neg (by omega)]
theorem atR_short2 (s : ByteArray) (i : Nat) (hc : 192 ≤ byteN s i ∧ byteN s i < 224) (h : s.size < i + 2) : atR s i = (0, 0) := by
  apply atR_bad
  rw [decode_N]
  unfold decodeN
  rw [if_neg (by omega), if_neg (by omega), if_neg (by omega), if_neg (by omega)]
theorem atR_cont2 (s : ByteArray) (i : Nat) (hc : 192 ≤ byteN s i ∧ byteN s i < 224) (k : Nat) (h1 : 1 ≤ k) (hk : k < 2) (h : ¬ contN (byteN s (i + k))) : atR s i = (0, 0) := by
  unfold contN at h
  apply atR_bad
  rw [decode_N]
  have b1 := byteN_lt s (i + 1)
  have b2 := byteN_lt s (i + 2)
  have b3 := byteN_lt s (i + 3)
  unfold decodeN
  rcases (show k = 1 ∨ k = 2 ∨ k = 3 by omega) with rfl | rfl | rfl
  all_goals first
    | (exfalso; omega)
    | rw [if_neg (by omega), if_neg (by omega), if_neg (by omega), if_neg (by omega)]
theorem atR_val2 (s : ByteArray) (i : Nat) (hc : 192 ≤ byteN s i ∧ byteN s i < 224) (h : i + 2 ≤ s.size) (hk : ∀ j, 1 ≤ j → j < 2 → contN (byteN s (i + j))) :
    atR s i = if rr s i 192 2 < 128 ∨ 1114111 < rr s i 192 2 ∨ (55296 ≤ rr s i 192 2 ∧ rr s i 192 2 < 57344) then (0, 0) else ((rr s i 192 2).toNat, 2) := by
  have b0 := byteN_lt s i
  have c1 := hk 1 (by omega) (by omega)
  unfold contN at c1
  have e : rr s i 192 2 = ((byteN s i % 32 * 64 + byteN s (i + 1) % 64 : Nat) : Int) := by rw [rr2]; omega
  have hd := decode_N s i
  unfold decodeN at hd
  rw [if_neg (by omega), if_pos (by omega)] at hd
  have hv : byteN s i % 32 * 64 + byteN s (i + 1) % 64 ≤ 2047 := by omega
  rw [e]
  generalize byteN s i % 32 * 64 + byteN s (i + 1) % 64 = v at *
  unfold atR
  rw [if_neg (by omega)]
  by_cases hg : (v : Int) < 128 ∨ 1114111 < (v : Int) ∨ (55296 ≤ (v : Int) ∧ (v : Int) < 57344)
  · rw [if_pos hg]
    rw [if_neg (by omega)] at hd
    rw [hd, if_pos ⟨rfl, rfl⟩]
  · rw [if_neg hg]
    rw [if_pos (by omega)] at hd
    rw [hd, if_neg (by simp only; omega)]
    simp
theorem atR_short3 (s : ByteArray) (i : Nat) (hc : 224 ≤ byteN s i ∧ byteN s i < 240) (h : s.size < i + 3) : atR s i = (0, 0) := by
  apply atR_bad
  rw [decode_N]
  unfold decodeN
  rw [if_neg (by omega), if_neg (by omega), if_neg (by omega), if_neg (by omega)]
theorem atR_cont3 (s : ByteArray) (i : Nat) (hc : 224 ≤ byteN s i ∧ byteN s i < 240) (k : Nat) (h1 : 1 ≤ k) (hk : k < 3) (h : ¬ contN (byteN s (i + k))) : atR s i = (0, 0) := by
  unfold contN at h
  apply atR_bad
  rw [decode_N]
  have b1 := byteN_lt s (i + 1)
  have b2 := byteN_lt s (i + 2)
  have b3 := byteN_lt s (i + 3)
  unfold decodeN
  rcases (show k = 1 ∨ k = 2 ∨ k = 3 by omega) with rfl | rfl | rfl
  all_goals first
    | (exfalso; omega)
    | rw [if_neg (by omega), if_neg (by omega), if_neg (by omega), if_neg (by omega)]
theorem atR_val3 (s : ByteArray) (i : Nat) (hc : 224 ≤ byteN s i ∧ byteN s i < 240) (h : i + 3 ≤ s.size) (hk : ∀ j, 1 ≤ j → j < 3 → contN (byteN s (i + j))) :
    atR s i = if rr s i 224 3 < 2048 ∨ 1114111 < rr s i 224 3 ∨ (55296 ≤ rr s i 224 3 ∧ rr s i 224 3 < 57344) then (0, 0) else ((rr s i 224 3).toNat, 3) := by
  have b0 := byteN_lt s i
  have c1 := hk 1 (by omega) (by omega)
  have c2 := hk 2 (by omega) (by omega)
  unfold contN at c1 c2
  have e : rr s i 224 3 = ((byteN s i % 16 * 4096 + byteN s (i + 1) % 64 * 64 + byteN s (i + 2) % 64 : Nat) : Int) := by rw [rr3]; omega
  have hd := decode_N s i
  unfold decodeN at hd
  rw [if_neg (by omega), if_neg (by omega), if_pos (by omega)] at hd
  have hv : byteN s i % 16 * 4096 + byteN s (i + 1) % 64 * 64 + byteN s (i + 2) % 64 ≤ 65535 := by omega
  rw [e]
  generalize byteN s i % 16 * 4096 + byteN s (i + 1) % 64 * 64 + byteN s (i + 2) % 64 = v at *
  unfold atR
  rw [if_neg (by omega)]
  by_cases hg : (v : Int) < 2048 ∨ 1114111 < (v : Int) ∨ (55296 ≤ (v : Int) ∧ (v : Int) < 57344)
  · rw [if_pos hg]
    rw [if_neg (by omega)] at hd
    rw [hd, if_pos ⟨rfl, rfl⟩]
  · rw [if_neg hg]
    rw [if_pos (by omega)] at hd
    rw [hd, if_neg (by simp only; omega)]
    simp
theorem atR_short4 (s : ByteArray) (i : Nat) (hc : 240 ≤ byteN s i ∧ byteN s i < 248) (h : s.size < i + 4) : atR s i = (0, 0) := by
  apply atR_bad
  rw [decode_N]
  unfold decodeN
  rw [if_neg (by omega), if_neg (by omega), if_neg (by omega), if_neg (by omega)]
theorem atR_cont4 (s : ByteArray) (i : Nat) (hc : 240 ≤ byteN s i ∧ byteN s i < 248) (k : Nat) (h1 : 1 ≤ k) (hk : k < 4) (h : ¬ contN (byteN s (i + k))) : atR s i = (0, 0) := by
  unfold contN at h
  apply atR_bad
  rw [decode_N]
  have b1 := byteN_lt s (i + 1)
  have b2 := byteN_lt s (i + 2)
  have b3 := byteN_lt s (i + 3)
  unfold decodeN
  rcases (show k = 1 ∨ k = 2 ∨ k = 3 by omega) with rfl | rfl | rfl
  all_goals first
    | (exfalso; omega)
    | rw [if_neg (by omega), if_neg (by omega), if_neg (by omega), if_neg (by omega)]
theorem atR_val4 (s : ByteArray) (i : Nat) (hc : 240 ≤ byteN s i ∧ byteN s i < 248) (h : i + 4 ≤ s.size) (hk : ∀ j, 1 ≤ j → j < 4 → contN (byteN s (i + j))) :
    atR s i = if rr s i 240 4 < 65536 ∨ 1114111 < rr s i 240 4 ∨ (55296 ≤ rr s i 240 4 ∧ rr s i 240 4 < 57344) then (0, 0) else ((rr s i 240 4).toNat, 4) := by
  have b0 := byteN_lt s i
  have c1 := hk 1 (by omega) (by omega)
  have c2 := hk 2 (by omega) (by omega)
  have c3 := hk 3 (by omega) (by omega)
  unfold contN at c1 c2 c3
  have e : rr s i 240 4 = ((byteN s i % 8 * 262144 + byteN s (i + 1) % 64 * 4096 + byteN s (i + 2) % 64 * 64 + byteN s (i + 3) % 64 : Nat) : Int) := by rw [rr4]; omega
  have hd := decode_N s i
  unfold decodeN at hd
  rw [if_neg (by omega), if_neg (by omega), if_neg (by omega), if_pos (by omega)] at hd
  have hv : byteN s i % 8 * 262144 + byteN s (i + 1) % 64 * 4096 + byteN s (i + 2) % 64 * 64 + byteN s (i + 3) % 64 ≤ 2097151 := by omega
  rw [e]
  generalize byteN s i % 8 * 262144 + byteN s (i + 1) % 64 * 4096 + byteN s (i + 2) % 64 * 64 + byteN s (i + 3) % 64 = v at *
  unfold atR
  rw [if_neg (by omega)]
  by_cases hg : (v : Int) < 65536 ∨ 1114111 < (v : Int) ∨ (55296 ≤ (v : Int) ∧ (v : Int) < 57344)
  · rw [if_pos hg]
    rw [if_neg (by omega)] at hd
    rw [hd, if_pos ⟨rfl, rfl⟩]
  · rw [if_neg hg]
    rw [if_pos (by omega)] at hd
    rw [hd, if_neg (by simp only; omega)]
    simp
set_option maxRecDepth 100000 in
set_option maxHeartbeats 1000000 in
theorem at_end (s : ByteArray) (i : Nat) (w : World) (hs : s.size ≤ 9223372036854775803) (h : s.size ≤ i) (hi : i ≤ 9223372036854775807) : Calls Tryd.prog 29 #[.string s, .int .i64 i] w fun e w' => e = .returned (.tuple #[.int .i64 ((atR s i).1 : Nat), .int .i64 ((atR s i).2 : Nat)]) ∧ w' = w := by
  rw [atR_end s i h]
  go_enter Tryd.func29, Tryd.ntmps29
  go_wp2
  go_ret2
  exact ⟨rfl, rfl⟩
set_option maxRecDepth 100000 in
set_option maxHeartbeats 1000000 in
theorem at_asc (s : ByteArray) (i : Nat) (w : World) (hs : s.size ≤ 9223372036854775803) (h : i < s.size) (hc : byteN s i < 128) : Calls Tryd.prog 29 #[.string s, .int .i64 i] w fun e w' => e = .returned (.tuple #[.int .i64 ((atR s i).1 : Nat), .int .i64 ((atR s i).2 : Nat)]) ∧ w' = w := by
  rw [atR_asc s i h hc]
  have hb := byteN_eq s i h
  have hq := s[i].toNat_lt
  have hd : ((s[i].toNat : Nat) : Int) < 128 := by omega
  have HB := Aside0.mk hb
  clear hb
  go_enter Tryd.func29, Tryd.ntmps29
  go_wp2
  go_ret2
  exact ⟨by rw [HB.out]; rfl, rfl⟩
set_option maxRecDepth 100000 in
set_option maxHeartbeats 1000000 in
theorem at_lone1 (s : ByteArray) (i : Nat) (w : World) (hs : s.size ≤ 9223372036854775803) (h : i < s.size) (hc : 128 ≤ byteN s i ∧ byteN s i < 192) : Calls Tryd.prog 29 #[.string s, .int .i64 i] w fun e w' => e = .returned (.tuple #[.int .i64 ((atR s i).1 : Nat), .int .i64 ((atR s i).2 : Nat)]) ∧ w' = w := by
  rw [atR_lone s i (.inl hc)]
  have hb := byteN_eq s i h
  have hq := s[i].toNat_lt
  rw [← hb] at hc
  obtain ⟨hc1, hc2⟩ := hc
  clear hb
  go_enter Tryd.func29, Tryd.ntmps29
  go_wp2
  go_ret2
  exact ⟨rfl, rfl⟩
set_option maxRecDepth 100000 in
set_option maxHeartbeats 1000000 in
theorem at_lone2 (s : ByteArray) (i : Nat) (w : World) (hs : s.size ≤ 9223372036854775803) (h : i < s.size) (hc : 248 ≤ byteN s i) : Calls Tryd.prog 29 #[.string s, .int .i64 i] w fun e w' => e = .returned (.tuple #[.int .i64 ((atR s i).1 : Nat), .int .i64 ((atR s i).2 : Nat)]) ∧ w' = w := by
  rw [atR_lone s i (.inr hc)]
  have hb := byteN_eq s i h
  have hq := s[i].toNat_lt
  rw [← hb] at hc
  clear hb
  go_enter Tryd.func29, Tryd.ntmps29
  go_wp2
  go_ret2
  exact ⟨rfl, rfl⟩
set_option maxRecDepth 100000 in
set_option maxHeartbeats 1000000 in
theorem at_short2 (s : ByteArray) (i : Nat) (w : World) (hs : s.size ≤ 9223372036854775803) (h : i < s.size) (hc : 192 ≤ byteN s i ∧ byteN s i < 224) (hl : s.size < i + 2) : Calls Tryd.prog 29 #[.string s, .int .i64 i] w fun e w' => e = .returned (.tuple #[.int .i64 ((atR s i).1 : Nat), .int .i64 ((atR s i).2 : Nat)]) ∧ w' = w := by
  rw [atR_short2 s i hc hl]
  have hb := byteN_eq s i h
  have hq := s[i].toNat_lt
  rw [← hb] at hc
  obtain ⟨hc1, hc2⟩ := hc
  clear hb
  go_enter Tryd.func29, Tryd.ntmps29
  go_wp2
  go_ret2
  exact ⟨rfl, rfl⟩
set_option maxRecDepth 100000 in
set_option maxHeartbeats 1000000 in
theorem at_long2 (s : ByteArray) (i : Nat) (w : World) (hs : s.size ≤ 9223372036854775803) (hl : i + 2 ≤ s.size) (hc : 192 ≤ byteN s i ∧ byteN s i < 224) : Calls Tryd.prog 29 #[.string s, .int .i64 i] w fun e w' => e = .returned (.tuple #[.int .i64 ((atR s i).1 : Nat), .int .i64 ((atR s i).2 : Nat)]) ∧ w' = w := by
  have hb := byteN_eq s i (by omega)
  have hq := s[i].toNat_lt
  have HC := Aside0.mk hc
  rw [← hb] at hc
  obtain ⟨hc1, hc2⟩ := hc
  have HB := Aside0.mk hb
  clear hb
  have ha : i < s.size := by omega
  have hd1 : decide ((s[i].toNat : Int) < 128) = false := decide_eq_false (by omega)
  have hd4 : decide ((s[i].toNat : Int) < 224) = true := decide_eq_true (by omega)
  go_enter Tryd.func29, Tryd.ntmps29
  go_wp2_with fail
  go_loop [8, 10] (fun r kk => ∃ k : Nat, 1 ≤ k ∧ k ≤ 2 ∧ kk = .int .i64 k ∧ r = .int .i64 (rr s i 192 k) ∧ Aside0 (∀ j, 1 ≤ j → j < k → contN (byteN s (i + j)))) (fun _ kk => 2 - (intOf kk).toNat)
  case atStart => exact ⟨1, by omega, by omega, rfl, by rw [rr1, HB.out], ⟨fun j h1 h2 => by omega⟩⟩
  case round =>
    obtain ⟨k, h1, hk, rfl, rfl, HK⟩ := hrel
    have hrb := rr_bd s i 192 k h1 (by omega) (by have := HC.out; omega) HK.out
    obtain ⟨hr0, hr1⟩ := hrb
    by_cases hlt : k < 2
    · have hik : i + k < s.size := by omega
      have hb := byteN_eq s (i + k) hik
      have hq2 := s[i + k].toNat_lt
      have HBK := Aside0.mk hb
      by_cases hcn : contN (byteN s (i + k))
      · have HCN := Aside0.mk hcn
        unfold contN at hcn
        rw [← hb] at hcn
        obtain ⟨hn1, hn2⟩ := hcn
        have HR := Aside0.mk (rr_succ s i 192 k h1)
        clear hb
        generalize rr s i 192 k = r at *
        go_wp2
        go_round
        case rel => exact ⟨k + 1, by omega, by omega, by go_num, by rw [HR.out, ← HBK.out], ⟨fun j h1 h2 => by
          by_cases hj : j = k
          · rw [hj]; exact HCN.out
          · exact HK.out j h1 (by omega)⟩⟩
        case measure => simp [intOf]; omega
      · have hE := atR_cont2 s i HC.out k h1 hlt hcn
        have HE := Aside0.mk hE
        clear hE
        unfold contN at hcn
        rw [← hb] at hcn
        clear hb
        generalize rr s i 192 k = r at *
        by_cases hn1 : s[i + k].toNat < 128
        · clear hcn
          go_wp2
          go_ret2
          exact ⟨by rw [HE.out]; rfl, rfl⟩
        · have hn2 : 192 ≤ s[i + k].toNat := by omega
          clear hcn
          go_wp2
          go_ret2
          exact ⟨by rw [HE.out]; rfl, rfl⟩
    · obtain rfl : k = 2 := by omega
      have hE := atR_val2 s i HC.out hl HK.out
      have HE := Aside0.mk hE
      clear hE
      generalize rr s i 192 2 = r at *
      by_cases g1 : r < 128
      · have HE2 := Aside0.mk (HE.out.trans (if_pos (.inl g1)))
        go_wp2
        go_ret2
        exact ⟨by rw [HE2.out]; rfl, rfl⟩
      · by_cases g2 : 1114111 < r
        · have HE2 := Aside0.mk (HE.out.trans (if_pos (.inr (.inl g2))))
          go_wp2
          go_ret2
          exact ⟨by rw [HE2.out]; rfl, rfl⟩
        · by_cases g3 : 55296 ≤ r
          · by_cases g4 : r < 57344
            · have HE2 := Aside0.mk (HE.out.trans (if_pos (.inr (.inr ⟨g3, g4⟩))))
              go_wp2
              go_ret2
              exact ⟨by rw [HE2.out]; rfl, rfl⟩
            · have HE2 := Aside0.mk (HE.out.trans (if_neg (by omega)))
              obtain ⟨m, rfl⟩ := Int.eq_ofNat_of_zero_le hr0
              go_wp2
              go_ret2
              exact ⟨by rw [HE2.out]; rfl, rfl⟩
          · have HE2 := Aside0.mk (HE.out.trans (if_neg (by omega)))
            obtain ⟨m, rfl⟩ := Int.eq_ofNat_of_zero_le hr0
            go_wp2
            go_ret2
            exact ⟨by rw [HE2.out]; rfl, rfl⟩
set_option maxRecDepth 100000 in
set_option maxHeartbeats 1000000 in
theorem at_short3 (s : ByteArray) (i : Nat) (w : World) (hs : s.size ≤ 9223372036854775803) (h : i < s.size) (hc : 224 ≤ byteN s i ∧ byteN s i < 240) (hl : s.size < i + 3) : Calls Tryd.prog 29 #[.string s, .int .i64 i] w fun e w' => e = .returned (.tuple #[.int .i64 ((atR s i).1 : Nat), .int .i64 ((atR s i).2 : Nat)]) ∧ w' = w := by
  rw [atR_short3 s i hc hl]
  have hb := byteN_eq s i h
  have hq := s[i].toNat_lt
  rw [← hb] at hc
  obtain ⟨hc1, hc2⟩ := hc
  clear hb
  go_enter Tryd.func29, Tryd.ntmps29
  go_wp2
  go_ret2
  exact ⟨rfl, rfl⟩
set_option maxRecDepth 100000 in
set_option maxHeartbeats 1000000 in
theorem at_long3 (s : ByteArray) (i : Nat) (w : World) (hs : s.size ≤ 9223372036854775803) (hl : i + 3 ≤ s.size) (hc : 224 ≤ byteN s i ∧ byteN s i < 240) : Calls Tryd.prog 29 #[.string s, .int .i64 i] w fun e w' => e = .returned (.tuple #[.int .i64 ((atR s i).1 : Nat), .int .i64 ((atR s i).2 : Nat)]) ∧ w' = w := by
  have hb := byteN_eq s i (by omega)
  have hq := s[i].toNat_lt
  have HC := Aside0.mk hc
  rw [← hb] at hc
  obtain ⟨hc1, hc2⟩ := hc
  have HB := Aside0.mk hb
  clear hb
  have ha : i < s.size := by omega
  have hd1 : decide ((s[i].toNat : Int) < 128) = false := decide_eq_false (by omega)
  have hd2 : decide ((s[i].toNat : Int) < 224) = false := decide_eq_false (by omega)
  have hd4 : decide ((s[i].toNat : Int) < 240) = true := decide_eq_true (by omega)
  go_enter Tryd.func29, Tryd.ntmps29
  go_wp2_with fail
  go_loop [8, 10] (fun r kk => ∃ k : Nat, 1 ≤ k ∧ k ≤ 3 ∧ kk = .int .i64 k ∧ r = .int .i64 (rr s i 224 k) ∧ Aside0 (∀ j, 1 ≤ j → j < k → contN (byteN s (i + j)))) (fun _ kk => 3 - (intOf kk).toNat)
  case atStart => exact ⟨1, by omega, by omega, rfl, by rw [rr1, HB.out], ⟨fun j h1 h2 => by omega⟩⟩
  case round =>
    obtain ⟨k, h1, hk, rfl, rfl, HK⟩ := hrel
    have hrb := rr_bd s i 224 k h1 (by omega) (by have := HC.out; omega) HK.out
    obtain ⟨hr0, hr1⟩ := hrb
    by_cases hlt : k < 3
    · have hik : i + k < s.size := by omega
      have hb := byteN_eq s (i + k) hik
      have hq2 := s[i + k].toNat_lt
      have HBK := Aside0.mk hb
      by_cases hcn : contN (byteN s (i + k))
      · have HCN := Aside0.mk hcn
        unfold contN at hcn
        rw [← hb] at hcn
        obtain ⟨hn1, hn2⟩ := hcn
        have HR := Aside0.mk (rr_succ s i 224 k h1)
        clear hb
        generalize rr s i 224 k = r at *
        go_wp2
        go_round
        case rel => exact ⟨k + 1, by omega, by omega, by go_num, by rw [HR.out, ← HBK.out], ⟨fun j h1 h2 => by
          by_cases hj : j = k
          · rw [hj]; exact HCN.out
          · exact HK.out j h1 (by omega)⟩⟩
        case measure => simp [intOf]; omega
      · have hE := atR_cont3 s i HC.out k h1 hlt hcn
        have HE := Aside0.mk hE
        clear hE
        unfold contN at hcn
        rw [← hb] at hcn
        clear hb
        generalize rr s i 224 k = r at *
        by_cases hn1 : s[i + k].toNat < 128
        · clear hcn
          go_wp2
          go_ret2
          exact ⟨by rw [HE.out]; rfl, rfl⟩
        · have hn2 : 192 ≤ s[i + k].toNat := by omega
          clear hcn
          go_wp2
          go_ret2
          exact ⟨by rw [HE.out]; rfl, rfl⟩
    · obtain rfl : k = 3 := by omega
      have hE := atR_val3 s i HC.out hl HK.out
      have HE := Aside0.mk hE
      clear hE
      generalize rr s i 224 3 = r at *
      by_cases g1 : r < 2048
      · have HE2 := Aside0.mk (HE.out.trans (if_pos (.inl g1)))
        go_wp2
        go_ret2
        exact ⟨by rw [HE2.out]; rfl, rfl⟩
      · by_cases g2 : 1114111 < r
        · have HE2 := Aside0.mk (HE.out.trans (if_pos (.inr (.inl g2))))
          go_wp2
          go_ret2
          exact ⟨by rw [HE2.out]; rfl, rfl⟩
        · by_cases g3 : 55296 ≤ r
          · by_cases g4 : r < 57344
            · have HE2 := Aside0.mk (HE.out.trans (if_pos (.inr (.inr ⟨g3, g4⟩))))
              go_wp2
              go_ret2
              exact ⟨by rw [HE2.out]; rfl, rfl⟩
            · have HE2 := Aside0.mk (HE.out.trans (if_neg (by omega)))
              obtain ⟨m, rfl⟩ := Int.eq_ofNat_of_zero_le hr0
              go_wp2
              go_ret2
              exact ⟨by rw [HE2.out]; rfl, rfl⟩
          · have HE2 := Aside0.mk (HE.out.trans (if_neg (by omega)))
            obtain ⟨m, rfl⟩ := Int.eq_ofNat_of_zero_le hr0
            go_wp2
            go_ret2
            exact ⟨by rw [HE2.out]; rfl, rfl⟩
set_option maxRecDepth 100000 in
set_option maxHeartbeats 1000000 in
theorem at_short4 (s : ByteArray) (i : Nat) (w : World) (hs : s.size ≤ 9223372036854775803) (h : i < s.size) (hc : 240 ≤ byteN s i ∧ byteN s i < 248) (hl : s.size < i + 4) : Calls Tryd.prog 29 #[.string s, .int .i64 i] w fun e w' => e = .returned (.tuple #[.int .i64 ((atR s i).1 : Nat), .int .i64 ((atR s i).2 : Nat)]) ∧ w' = w := by
  rw [atR_short4 s i hc hl]
  have hb := byteN_eq s i h
  have hq := s[i].toNat_lt
  rw [← hb] at hc
  obtain ⟨hc1, hc2⟩ := hc
  clear hb
  go_enter Tryd.func29, Tryd.ntmps29
  go_wp2
  go_ret2
  exact ⟨rfl, rfl⟩
set_option maxRecDepth 100000 in
set_option maxHeartbeats 1000000 in
theorem at_long4 (s : ByteArray) (i : Nat) (w : World) (hs : s.size ≤ 9223372036854775803) (hl : i + 4 ≤ s.size) (hc : 240 ≤ byteN s i ∧ byteN s i < 248) : Calls Tryd.prog 29 #[.string s, .int .i64 i] w fun e w' => e = .returned (.tuple #[.int .i64 ((atR s i).1 : Nat), .int .i64 ((atR s i).2 : Nat)]) ∧ w' = w := by
  have hb := byteN_eq s i (by omega)
  have hq := s[i].toNat_lt
  have HC := Aside0.mk hc
  rw [← hb] at hc
  obtain ⟨hc1, hc2⟩ := hc
  have HB := Aside0.mk hb
  clear hb
  have ha : i < s.size := by omega
  have hd1 : decide ((s[i].toNat : Int) < 128) = false := decide_eq_false (by omega)
  have hd2 : decide ((s[i].toNat : Int) < 224) = false := decide_eq_false (by omega)
  have hd3 : decide ((s[i].toNat : Int) < 240) = false := decide_eq_false (by omega)
  have hd4 : decide ((s[i].toNat : Int) < 248) = true := decide_eq_true (by omega)
  go_enter Tryd.func29, Tryd.ntmps29
  go_wp2_with fail
  go_loop [8, 10] (fun r kk => ∃ k : Nat, 1 ≤ k ∧ k ≤ 4 ∧ kk = .int .i64 k ∧ r = .int .i64 (rr s i 240 k) ∧ Aside0 (∀ j, 1 ≤ j → j < k → contN (byteN s (i + j)))) (fun _ kk => 4 - (intOf kk).toNat)
  case atStart => exact ⟨1, by omega, by omega, rfl, by rw [rr1, HB.out], ⟨fun j h1 h2 => by omega⟩⟩
  case round =>
    obtain ⟨k, h1, hk, rfl, rfl, HK⟩ := hrel
    have hrb := rr_bd s i 240 k h1 (by omega) (by have := HC.out; omega) HK.out
    obtain ⟨hr0, hr1⟩ := hrb
    by_cases hlt : k < 4
    · have hik : i + k < s.size := by omega
      have hb := byteN_eq s (i + k) hik
      have hq2 := s[i + k].toNat_lt
      have HBK := Aside0.mk hb
      by_cases hcn : contN (byteN s (i + k))
      · have HCN := Aside0.mk hcn
        unfold contN at hcn
        rw [← hb] at hcn
        obtain ⟨hn1, hn2⟩ := hcn
        have HR := Aside0.mk (rr_succ s i 240 k h1)
        clear hb
        generalize rr s i 240 k = r at *
        go_wp2
        go_round
        case rel => exact ⟨k + 1, by omega, by omega, by go_num, by rw [HR.out, ← HBK.out], ⟨fun j h1 h2 => by
          by_cases hj : j = k
          · rw [hj]; exact HCN.out
          · exact HK.out j h1 (by omega)⟩⟩
        case measure => simp [intOf]; omega
      · have hE := atR_cont4 s i HC.out k h1 hlt hcn
        have HE := Aside0.mk hE
        clear hE
        unfold contN at hcn
        rw [← hb] at hcn
        clear hb
        generalize rr s i 240 k = r at *
        by_cases hn1 : s[i + k].toNat < 128
        · clear hcn
          go_wp2
          go_ret2
          exact ⟨by rw [HE.out]; rfl, rfl⟩
        · have hn2 : 192 ≤ s[i + k].toNat := by omega
          clear hcn
          go_wp2
          go_ret2
          exact ⟨by rw [HE.out]; rfl, rfl⟩
    · obtain rfl : k = 4 := by omega
      have hE := atR_val4 s i HC.out hl HK.out
      have HE := Aside0.mk hE
      clear hE
      generalize rr s i 240 4 = r at *
      by_cases g1 : r < 65536
      · have HE2 := Aside0.mk (HE.out.trans (if_pos (.inl g1)))
        go_wp2
        go_ret2
        exact ⟨by rw [HE2.out]; rfl, rfl⟩
      · by_cases g2 : 1114111 < r
        · have HE2 := Aside0.mk (HE.out.trans (if_pos (.inr (.inl g2))))
          go_wp2
          go_ret2
          exact ⟨by rw [HE2.out]; rfl, rfl⟩
        · by_cases g3 : 55296 ≤ r
          · by_cases g4 : r < 57344
            · have HE2 := Aside0.mk (HE.out.trans (if_pos (.inr (.inr ⟨g3, g4⟩))))
              go_wp2
              go_ret2
              exact ⟨by rw [HE2.out]; rfl, rfl⟩
            · have HE2 := Aside0.mk (HE.out.trans (if_neg (by omega)))
              obtain ⟨m, rfl⟩ := Int.eq_ofNat_of_zero_le hr0
              go_wp2
              go_ret2
              exact ⟨by rw [HE2.out]; rfl, rfl⟩
          · have HE2 := Aside0.mk (HE.out.trans (if_neg (by omega)))
            obtain ⟨m, rfl⟩ := Int.eq_ofNat_of_zero_le hr0
            go_wp2
            go_ret2
            exact ⟨by rw [HE2.out]; rfl, rfl⟩
theorem at_h (s : ByteArray) (i : Nat) (w : World) (hs : s.size ≤ 9223372036854775803) (hi : i ≤ 9223372036854775807) : Calls Tryd.prog 29 #[.string s, .int .i64 i] w fun e w' => e = .returned (.tuple #[.int .i64 ((atR s i).1 : Nat), .int .i64 ((atR s i).2 : Nat)]) ∧ w' = w := by
  by_cases h : i < s.size
  · by_cases c1 : byteN s i < 128
    · exact at_asc s i w hs h c1
    · by_cases c2 : byteN s i < 192
      · exact at_lone1 s i w hs h ⟨by omega, c2⟩
      · by_cases c3 : byteN s i < 224
        · by_cases hl : i + 2 ≤ s.size
          · exact at_long2 s i w hs hl ⟨by omega, c3⟩
          · exact at_short2 s i w hs h ⟨by omega, c3⟩ (by omega)
        · by_cases c4 : byteN s i < 240
          · by_cases hl : i + 3 ≤ s.size
            · exact at_long3 s i w hs hl ⟨by omega, c4⟩
            · exact at_short3 s i w hs h ⟨by omega, c4⟩ (by omega)
          · by_cases c5 : byteN s i < 248
            · by_cases hl : i + 4 ≤ s.size
              · exact at_long4 s i w hs hl ⟨by omega, c5⟩
              · exact at_short4 s i w hs h ⟨by omega, c5⟩ (by omega)
            · exact at_lone2 s i w hs h (by omega)
  · exact at_end s i w hs (by omega) hi
/-! ### Valid -/
theorem decode_size (s : ByteArray) (i : Nat) (h : i < s.size) (hb : ¬ ((Utf8.decode s i).1 = 65533 ∧ (Utf8.decode s i).2 = 1)) : 1 ≤ (Utf8.decode s i).2 ∧ i + (Utf8.decode s i).2 ≤ s.size := by
  have e := decodeL_drop s i
  have w1 := decodeL_width (s.data.toList.drop i)
  have hl : (s.data.toList.drop i).length = s.size - i := by rw [List.length_drop]; rfl
  have w2 : (decodeL (s.data.toList.drop i)).2 ≤ (s.data.toList.drop i).length := by
    apply decodeL_le
    intro e0
    rw [e0] at hl
    simp at hl
    omega
  rw [e, hl] at w2
  rw [e] at w1
  omega
theorem atR_none (s : ByteArray) (i : Nat) (h : i < s.size) : (atR s i).2 = 0 ↔ ((Utf8.decode s i).1 = 65533 ∧ (Utf8.decode s i).2 = 1) := by
  unfold atR
  rw [if_neg (by omega)]
  by_cases hb : (Utf8.decode s i).1 = 65533 ∧ (Utf8.decode s i).2 = 1
  · rw [if_pos hb]; exact ⟨fun _ => hb, fun _ => rfl⟩
  · rw [if_neg hb]
    have := decode_size s i h hb
    exact ⟨fun e => by omega, fun e => absurd e hb⟩
theorem valid_at (s : ByteArray) (i : Nat) (h : i < s.size) : validD (s.data.toList.drop i) = if (atR s i).2 = 0 then false else validD (s.data.toList.drop (i + (atR s i).2)) := by
  have hl : (s.data.toList.drop i).length = s.size - i := by rw [List.length_drop]; rfl
  rw [validD_step _ (fun e0 => by rw [e0] at hl; simp at hl; omega), decodeL_drop]
  by_cases hb : (Utf8.decode s i).1 = 65533 ∧ (Utf8.decode s i).2 = 1
  · rw [if_pos hb, if_pos ((atR_none s i h).2 hb)]
  · rw [if_neg hb, if_neg (fun e => hb ((atR_none s i h).1 e)), List.drop_drop]
    congr 2
    unfold atR
    rw [if_neg (by omega), if_neg hb]
theorem atR_size (s : ByteArray) (i : Nat) (h : i < s.size) : i + (atR s i).2 ≤ s.size := by
  unfold atR
  rw [if_neg (by omega)]
  split
  · exact Nat.le_of_lt h
  · rename_i hb
    exact (decode_size s i h hb).2
set_option maxRecDepth 100000 in
set_option maxHeartbeats 1000000 in
theorem valid_h (s : ByteArray) (w : World) (hs : s.size ≤ 9223372036854775803) : Calls Tryd.prog 21 #[.string s] w fun e w' => e = .returned (.bool (validD s.data.toList)) ∧ w' = w := by
  obtain ⟨R, hR⟩ : ∃ R, validD s.data.toList = R := ⟨_, rfl⟩
  rw [hR]
  have HR := Aside0.mk hR
  clear hR
  go_enter Tryd.func21, Tryd.ntmps21
  go_wp2_with fail
  go_loopw [3] (fun ii wr => ∃ i : Nat, i ≤ s.size ∧ ii = .int .i64 i ∧ Aside0 (validD (s.data.toList.drop i) = R) ∧ wr = w) (fun ii _ => s.size - (intOf ii).toNat)
  case atStart => exact ⟨0, by omega, rfl, ⟨by rw [List.drop_zero]; exact HR.out⟩, rfl⟩
  case round =>
    obtain ⟨i, hi, rfl, HV, rfl⟩ := hrel
    by_cases hlt : i < s.size
    · have cA := at_h s i wr hs (by omega)
      have hv := valid_at s i hlt
      rw [HV.out] at hv
      have hz := atR_size s i hlt
      generalize (atR s i).1 = r at *
      generalize (atR s i).2 = n at *
      have CA := Aside0.mk cA
      clear cA
      by_cases hn : n = 0
      · rw [if_pos hn] at hv
        subst hv
        subst hn
        go_wp2_with fail
        refine CA.out.mono ?_
        rintro e w1 ⟨rfl, rfl⟩
        go_wp2
        go_ret
        exact ⟨rfl, rfl⟩
      · rw [if_neg hn] at hv
        have hd : ((n : Int) == 0) = false := beq_eq_false_iff_ne.mpr (by omega)
        have HV2 := Aside0.mk hv
        clear hv
        go_wp2_with fail
        refine CA.out.mono ?_
        rintro e w1 ⟨rfl, rfl⟩
        go_wp2
        refine ⟨⟨i + n, by omega, by go_num, ⟨HV2.out.symm⟩, trivial⟩, ?_⟩
        simp [intOf]
        omega
    · obtain rfl : i = s.size := by omega
      have hv := HV.out
      rw [show s.data.toList.drop s.size = [] from List.drop_of_length_le (Nat.le_refl _)] at hv
      have e : validD [] = true := rfl
      rw [e] at hv
      subst hv
      go_wp2
      go_ret
      exact ⟨rfl, rfl⟩
end Go.Proofs.YtpbnppfipinomaaDoor.Given
