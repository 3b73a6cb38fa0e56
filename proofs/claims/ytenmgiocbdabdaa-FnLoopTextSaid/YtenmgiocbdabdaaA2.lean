/- Contracts: powers, falling products, sums by closures; the counts. -/
import Derived.Test.YtenmgiocbdabdaaA1
namespace Go.Proofs.Ytenmgiocbdabdaa
open Go.RowKit
set_option linter.unusedVariables false

/-- a to the power of k -/
def powI (a : Int) : Nat → Int
  | 0 => 1
  | k + 1 => powI a k * a
/-- n times n - 1 and so on, k numbers -/
def fallI (n : Int) : Nat → Int
  | 0 => 1
  | k + 1 => fallI n k * (n - k)

theorem powI_bd : ∀ a : Nat, a ≤ 7 → ∀ k : Nat, k ≤ 7 → 0 ≤ powI a k ∧ powI a k ≤ 823543 := by decide +kernel
theorem fallI_bd : ∀ a : Nat, a ≤ 7 → ∀ k : Nat, k ≤ 7 → 0 ≤ fallI a k ∧ fallI a k ≤ 5040 := by decide +kernel

set_option maxHeartbeats 400000 in
theorem l7Power_c (a b : Int) (w : World) (ha : 0 ≤ a) (ha7 : a ≤ 7) (hb : 0 ≤ b) (hb7 : b ≤ 7) :
    Calls Try.prog 130 #[.int .i64 a, .int .i64 b] w fun e w' => e = .returned (.int .i64 (powI a b.toNat)) ∧ w = w' := by
  obtain ⟨B, rfl⟩ := Int.eq_ofNat_of_zero_le hb
  rw [Int.toNat_natCast]
  go_enter Try.func130, Try.ntmps130
  go_wp2
  go_loop [5, 6] (fun o k => ∃ j : Nat, j ≤ B ∧ k = .int .i64 j ∧ o = .int .i64 (powI a j)) (fun _ k => B - (intOf k).toNat)
  case atStart => exact ⟨0, Nat.zero_le _, rfl, rfl⟩
  case round =>
    obtain ⟨j, hj, rfl, rfl⟩ := hrel
    by_cases hlt : j < B
    · have hp := powI_bd a.toNat (by omega) (j + 1) (by omega)
      rw [show ((a.toNat : Nat) : Int) = a by omega] at hp
      have hp' : 0 ≤ powI a j * a ∧ powI a j * a ≤ 823543 := hp
      clear hp
      go_wp2
      go_round
      case rel => exact ⟨j + 1, by omega, by go_num, rfl⟩
      case measure => simp [intOf]; omega
    · obtain rfl : j = B := by omega
      go_wp2
      go_ret
      exact ⟨rfl, rfl⟩

theorem powered1_c (p a : Int) (b : Nat) (w : World) (hc : w.cell? ⟨b, 0, none⟩ = some (.int .i64 a)) (h0 : 0 ≤ p * a) (h1 : p * a ≤ 1000000) (k : Int) :
    Calls Try.prog 166 #[.int .i64 p, .int .i64 k, .pointer (some ⟨b, 0, none⟩)] w fun e w' => e = .returned (.int .i64 (p * a)) ∧ w = w' := by
  go_enter Try.func166, Try.ntmps166
  go_wp2
  go_ret
  exact ⟨rfl, rfl⟩

theorem folded_powered (L : Nat) (acc : Nat → Int) (b : Nat) (B : Nat) (w : World) (hL : L ≤ 7)
    (hcall : ∀ (k : Nat) (W : World), k < L → Below B w W → Calls Try.prog 166 #[.int .i64 (acc k), .int .i64 ((k : Int) + 1), .pointer (some ⟨b, 0, none⟩)] W fun e w' => e = .returned (.int .i64 (acc (k + 1))) ∧ Below B W w') :
    Calls Try.prog 131 #[.int .i64 L, .int .i64 (acc 0), .func (.func 166) #[] #[.pointer (some ⟨b, 0, none⟩)]] w fun e w' => e = .returned (.int .i64 (acc L)) ∧ Below B w w' := by
  have HC := hid hcall
  clear hcall
  go_enter Try.func131, Try.ntmps131
  go_wp2
  go_loopw [1, 7] (fun s i wr => ∃ k : Nat, k ≤ L ∧ i = .int .i64 ((k : Int) + 1) ∧ s = .int .i64 (acc k) ∧ Below B w wr) (fun _ i _ => L + 1 - (intOf i).toNat)
  case atStart => exact ⟨0, Nat.zero_le _, rfl, rfl, Below.refl _ _⟩
  case round =>
    obtain ⟨k, hk, rfl, rfl, hb⟩ := hrel
    by_cases hlt : k < L
    · have hc := HC.out k wr hlt hb
      go_wp2_with fail
      refine hc.mono ?_
      rintro e w' ⟨rfl, hb'⟩
      go_wp2
      go_roundw
      case rel => exact ⟨k + 1, by omega, by go_num, rfl, hb.trans hb'⟩
      case measure => simp [intOf]; omega
    · obtain rfl : k = L := by omega
      go_wp2
      go_ret
      exact ⟨rfl, hb⟩

theorem folded_falling (L : Nat) (acc : Nat → Int) (b : Nat) (B : Nat) (w : World) (hL : L ≤ 7)
    (hcall : ∀ (k : Nat) (W : World), k < L → Below B w W → Calls Try.prog 165 #[.int .i64 (acc k), .int .i64 ((k : Int) + 1), .pointer (some ⟨b, 0, none⟩)] W fun e w' => e = .returned (.int .i64 (acc (k + 1))) ∧ Below B W w') :
    Calls Try.prog 131 #[.int .i64 L, .int .i64 (acc 0), .func (.func 165) #[] #[.pointer (some ⟨b, 0, none⟩)]] w fun e w' => e = .returned (.int .i64 (acc L)) ∧ Below B w w' := by
  have HC := hid hcall
  clear hcall
  go_enter Try.func131, Try.ntmps131
  go_wp2
  go_loopw [1, 7] (fun s i wr => ∃ k : Nat, k ≤ L ∧ i = .int .i64 ((k : Int) + 1) ∧ s = .int .i64 (acc k) ∧ Below B w wr) (fun _ i _ => L + 1 - (intOf i).toNat)
  case atStart => exact ⟨0, Nat.zero_le _, rfl, rfl, Below.refl _ _⟩
  case round =>
    obtain ⟨k, hk, rfl, rfl, hb⟩ := hrel
    by_cases hlt : k < L
    · have hc := HC.out k wr hlt hb
      go_wp2_with fail
      refine hc.mono ?_
      rintro e w' ⟨rfl, hb'⟩
      go_wp2
      go_roundw
      case rel => exact ⟨k + 1, by omega, by go_num, rfl, hb.trans hb'⟩
      case measure => simp [intOf]; omega
    · obtain rfl : k = L := by omega
      go_wp2
      go_ret
      exact ⟨rfl, hb⟩

theorem folded_OneLotOf (L : Nat) (acc : Nat → Int) (b : Nat) (B : Nat) (w : World) (hL : L ≤ 7)
    (hcall : ∀ (k : Nat) (W : World), k < L → Below B w W → Calls Try.prog 139 #[.int .i64 (acc k), .int .i64 ((k : Int) + 1), .pointer (some ⟨b, 0, none⟩)] W fun e w' => e = .returned (.int .i64 (acc (k + 1))) ∧ Below B W w') :
    Calls Try.prog 131 #[.int .i64 L, .int .i64 (acc 0), .func (.func 139) #[] #[.pointer (some ⟨b, 0, none⟩)]] w fun e w' => e = .returned (.int .i64 (acc L)) ∧ Below B w w' := by
  have HC := hid hcall
  clear hcall
  go_enter Try.func131, Try.ntmps131
  go_wp2
  go_loopw [1, 7] (fun s i wr => ∃ k : Nat, k ≤ L ∧ i = .int .i64 ((k : Int) + 1) ∧ s = .int .i64 (acc k) ∧ Below B w wr) (fun _ i _ => L + 1 - (intOf i).toNat)
  case atStart => exact ⟨0, Nat.zero_le _, rfl, rfl, Below.refl _ _⟩
  case round =>
    obtain ⟨k, hk, rfl, rfl, hb⟩ := hrel
    by_cases hlt : k < L
    · have hc := HC.out k wr hlt hb
      go_wp2_with fail
      refine hc.mono ?_
      rintro e w' ⟨rfl, hb'⟩
      go_wp2
      go_roundw
      case rel => exact ⟨k + 1, by omega, by go_num, rfl, hb.trans hb'⟩
      case measure => simp [intOf]; omega
    · obtain rfl : k = L := by omega
      go_wp2
      go_ret
      exact ⟨rfl, hb⟩

theorem folded_SettledMaps (L : Nat) (acc : Nat → Int) (b : Nat) (B : Nat) (w : World) (hL : L ≤ 7)
    (hcall : ∀ (k : Nat) (W : World), k < L → Below B w W → Calls Try.prog 132 #[.int .i64 (acc k), .int .i64 ((k : Int) + 1), .pointer (some ⟨b, 0, none⟩)] W fun e w' => e = .returned (.int .i64 (acc (k + 1))) ∧ Below B W w') :
    Calls Try.prog 131 #[.int .i64 L, .int .i64 (acc 0), .func (.func 132) #[] #[.pointer (some ⟨b, 0, none⟩)]] w fun e w' => e = .returned (.int .i64 (acc L)) ∧ Below B w w' := by
  have HC := hid hcall
  clear hcall
  go_enter Try.func131, Try.ntmps131
  go_wp2
  go_loopw [1, 7] (fun s i wr => ∃ k : Nat, k ≤ L ∧ i = .int .i64 ((k : Int) + 1) ∧ s = .int .i64 (acc k) ∧ Below B w wr) (fun _ i _ => L + 1 - (intOf i).toNat)
  case atStart => exact ⟨0, Nat.zero_le _, rfl, rfl, Below.refl _ _⟩
  case round =>
    obtain ⟨k, hk, rfl, rfl, hb⟩ := hrel
    by_cases hlt : k < L
    · have hc := HC.out k wr hlt hb
      go_wp2_with fail
      refine hc.mono ?_
      rintro e w' ⟨rfl, hb'⟩
      go_wp2
      go_roundw
      case rel => exact ⟨k + 1, by omega, by go_num, rfl, hb.trans hb'⟩
      case measure => simp [intOf]; omega
    · obtain rfl : k = L := by omega
      go_wp2
      go_ret
      exact ⟨rfl, hb⟩

theorem cell_new1 (w : World) (v : Value) (t : TypeId) : (w.alloc (.cells #[v] t)).cell? ⟨w.heap.size, 0, none⟩ = some v := by
  rw [World.cell?_alloc_at _ _ _ _ rfl]; rfl

theorem powered_c (a b : Int) (w : World) (ha : 0 ≤ a) (ha7 : a ≤ 7) (hb : 0 ≤ b) (hb7 : b ≤ 7) :
    Calls Try.prog 129 #[.int .i64 a, .int .i64 b] w fun e w' => e = .returned (.int .i64 (powI a b.toNat)) ∧ Below w.heap.size w w' := by
  obtain ⟨L, rfl⟩ := Int.eq_ofNat_of_zero_le hb
  rw [Int.toNat_natCast]
  have hmf : ∀ (fn : Fn) (first cap : Array Value) (w : World), (Instr.makeFunc fn first cap).run Try.prog w = .ok (.func fn first cap) w := fun _ _ _ _ => rfl
  have hf := folded_powered L (powI a) w.heap.size (w.heap.size + 1) (w.alloc (.cells #[.int .i64 a] 3)) (by omega) (fun k W hk hB => by
    have hp := powI_bd a.toNat (by omega) (k + 1) (by omega)
    rw [show ((a.toNat : Nat) : Int) = a by omega] at hp
    have hc := (hB.cell (p := ⟨w.heap.size, 0, none⟩) (by simp)).trans (cell_new1 w (.int .i64 a) 3)
    exact (powered1_c (powI a k) a w.heap.size W hc hp.1 (by have := hp.2; unfold powI at this; omega) _).mono fun e w' ⟨h1, h2⟩ => ⟨h1, by subst h2; exact Below.refl _ _⟩)
  have HF := hid hf
  clear hf
  go_enter Try.func129, Try.ntmps129
  go_wp2_with fail
  refine HF.out.mono ?_
  rintro e w' ⟨rfl, hb'⟩
  go_wp2
  go_ret
  exact ⟨rfl, ((Below.refl _ _).alloc (Nat.le_refl _) _).trans (hb'.mono (by omega))⟩

theorem falling1_c (p n k : Int) (b : Nat) (w : World) (hc : w.cell? ⟨b, 0, none⟩ = some (.int .i64 n)) (hn : 0 ≤ n) (hn7 : n ≤ 7) (hk : 1 ≤ k) (hk7 : k ≤ n)
    (h0 : 0 ≤ p * (n - k + 1)) (h1 : p * (n - k + 1) ≤ 1000000) :
    Calls Try.prog 165 #[.int .i64 p, .int .i64 k, .pointer (some ⟨b, 0, none⟩)] w fun e w' => e = .returned (.int .i64 (p * (n - k + 1))) ∧ w = w' := by
  go_enter Try.func165, Try.ntmps165
  go_wp2
  go_ret
  exact ⟨rfl, rfl⟩

theorem falling_c (n m : Int) (w : World) (hn : 0 ≤ n) (hn7 : n ≤ 7) (hm : 0 ≤ m) (hmn : m ≤ n) :
    Calls Try.prog 128 #[.int .i64 n, .int .i64 m] w fun e w' => e = .returned (.int .i64 (fallI n m.toNat)) ∧ Below w.heap.size w w' := by
  obtain ⟨L, rfl⟩ := Int.eq_ofNat_of_zero_le hm
  rw [Int.toNat_natCast]
  have hmf : ∀ (fn : Fn) (first cap : Array Value) (w : World), (Instr.makeFunc fn first cap).run Try.prog w = .ok (.func fn first cap) w := fun _ _ _ _ => rfl
  have hf := folded_falling L (fallI n) w.heap.size (w.heap.size + 1) (w.alloc (.cells #[.int .i64 n] 3)) (by omega) (fun k W hk hB => by
    have hp := fallI_bd n.toNat (by omega) (k + 1) (by omega)
    rw [show ((n.toNat : Nat) : Int) = n by omega] at hp
    have hc := (hB.cell (p := ⟨w.heap.size, 0, none⟩) (by simp)).trans (cell_new1 w (.int .i64 n) 3)
    have e : n - ((k : Int) + 1) + 1 = n - k := by omega
    have q : fallI n (k + 1) = fallI n k * (n - k) := rfl
    exact (falling1_c (fallI n k) n ((k : Int) + 1) w.heap.size W hc hn hn7 (by omega) (by omega) (by rw [e, ← q]; exact hp.1) (by rw [e, ← q]; omega)).mono fun e' w' ⟨h1, h2⟩ => ⟨by rw [h1, e]; rfl, by subst h2; exact Below.refl _ _⟩)
  have HF := hid hf
  clear hf
  go_enter Try.func128, Try.ntmps128
  go_wp2_with fail
  refine HF.out.mono ?_
  rintro e w' ⟨rfl, hb'⟩
  go_wp2
  go_ret
  exact ⟨rfl, ((Below.refl _ _).alloc (Nat.le_refl _) _).trans (hb'.mono (by omega))⟩


end Go.Proofs.Ytenmgiocbdabdaa
