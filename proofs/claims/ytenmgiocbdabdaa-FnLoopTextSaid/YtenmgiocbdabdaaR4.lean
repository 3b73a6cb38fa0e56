/- Contracts of chapter 4: divisors, periods. -/
import Derived.Test.YtenmgiocbdabdaaR3
namespace Go.Proofs.Ytenmgiocbdabdaa
open Go.RowKit
set_option linter.unusedVariables false

/-- the least number that the lengths of the first j loops divide -/
def per (xss : List (List Int)) : Nat → Nat
  | 0 => 1
  | j + 1 => per xss j / Nat.gcd (per xss j) (gl xss j).length * (gl xss j).length
theorem per_bound (xss : List (List Int)) (h : ∀ j, j < xss.length → 1 ≤ (gl xss j).length ∧ (gl xss j).length ≤ 7) : ∀ j, j ≤ xss.length → 1 ≤ per xss j ∧ per xss j ≤ 7 ^ j
  | 0, _ => by simp [per]
  | j + 1, hj => by
    obtain ⟨h1, h2⟩ := per_bound xss h j (by omega)
    obtain ⟨h3, h4⟩ := h j (by omega)
    rw [per]
    have hd : Nat.gcd (per xss j) (gl xss j).length ∣ per xss j := Nat.gcd_dvd_left _ _
    have hq : 1 ≤ per xss j / Nat.gcd (per xss j) (gl xss j).length := Nat.div_pos (Nat.le_of_dvd h1 hd) (Nat.gcd_pos_of_pos_left _ h1)
    refine ⟨Nat.le_trans (by omega) (Nat.mul_le_mul hq h3), ?_⟩
    rw [Nat.pow_succ]
    exact Nat.mul_le_mul (Nat.le_trans (Nat.div_le_self _ _) h2) h4
def periodV (f : List Int) : Int := if mapOkB f = true then (per (loopsLL f) (loopsLL f).length : Int) else -1

theorem iCommon_c (a b : Nat) (w : World) (ha : a ≤ 1000000000) (hb : b ≤ 1000000000) :
    Calls Try.prog 146 #[.int .i64 a, .int .i64 b] w fun e w' => e = .returned (.int .i64 (Nat.gcd a b)) ∧ Below w.heap.size w w' := by
  go_enter Try.func146, Try.ntmps146
  go_wp2_with fail
  go_loopw [0, 1] (fun x y wr => ∃ m n : Nat, m ≤ 1000000000 ∧ n ≤ 1000000000 ∧ x = .int .i64 m ∧ y = .int .i64 n ∧ Nat.gcd m n = Nat.gcd a b ∧ Below w.heap.size w wr) (fun _ y _ => (intOf y).toNat)
  case atStart => exact ⟨a, b, ha, hb, rfl, rfl, rfl, Below.refl _ _⟩
  case round =>
    obtain ⟨m, n, hm, hn, rfl, rfl, hg, hB⟩ := hrel
    have HG := hid hg
    clear hg
    by_cases h0 : n = 0
    · subst h0
      go_wp2
      go_ret
      exact ⟨ret_int (by have := HG.out; rw [Nat.gcd_zero_right] at this; rw [this]), hB⟩
    · have q : ((n : Int) == 0) = false := by simp; omega
      have e1 : ((m : Int) % (n : Int)) = ((m % n : Nat) : Int) := (Int.natCast_emod m n).symm
      have hlt := Nat.mod_lt m (show 0 < n by omega)
      have HN := hid (show Nat.gcd n (m % n) = Nat.gcd a b by rw [← HG.out, Nat.gcd_comm m n, Nat.gcd_rec n m, Nat.gcd_comm])
      go_wp2
      go_region
      all_goals go_wp2
      all_goals go_roundw
      case rel => exact ⟨n, m % n, by omega, by omega, rfl, by rw [e1], HN.out, by first | exact hB.drew | exact hB⟩
      case measure => simp [intOf]; omega

theorem sCommon_c (a b : Nat) (w : World) (ha : 1 ≤ a ∧ a ≤ 1000000) (hb : b ≤ 1000) :
    Calls Try.prog 147 #[.int .i64 a, .int .i64 b] w fun e w' => e = .returned (.int .i64 ((a / Nat.gcd a b * b : Nat) : Int)) ∧ Below w.heap.size w w' := by
  have hgp := Nat.gcd_pos_of_pos_left b (show 0 < a by omega)
  have HQ := hid (Nat.mul_le_mul (Nat.le_trans (Nat.div_le_self a (Nat.gcd a b)) ha.2) hb)
  generalize hRR : a / Nat.gcd a b * b = RR
  have HRR := hid hRR
  clear hRR
  go_enter Try.func147, Try.ntmps147
  go_wp2_with fail
  go_loopw [5, 6] (fun x y wr => ∃ m n : Nat, m ≤ 1000000000 ∧ n ≤ 1000000000 ∧ x = .int .i64 m ∧ y = .int .i64 n ∧ Nat.gcd m n = Nat.gcd a b ∧ Below w.heap.size w wr) (fun _ y _ => (intOf y).toNat)
  case atStart => exact ⟨a, b, by omega, by omega, rfl, rfl, rfl, Below.refl _ _⟩
  case round =>
    obtain ⟨m, n, hm, hn, rfl, rfl, hg, hB⟩ := hrel
    have HG := hid hg
    clear hg
    by_cases h0 : n = 0
    · subst h0
      have hm' : m = Nat.gcd a b := by have := HG.out; rwa [Nat.gcd_zero_right] at this
      subst hm'
      have e2 : ((a : Int) / ((Nat.gcd a b : Nat) : Int)) = ((a / Nat.gcd a b : Nat) : Int) := (Int.natCast_ediv a _).symm
      have e3 : Int.tdiv (a : Int) ((Nat.gcd a b : Nat) : Int) = ((a / Nat.gcd a b : Nat) : Int) := by rw [Int.tdiv_eq_ediv_of_nonneg (by omega)]; exact e2
      have e4 : (((a / Nat.gcd a b : Nat) : Int) * (b : Int)) = ((a / Nat.gcd a b * b : Nat) : Int) := (Int.natCast_mul _ _).symm
      have q0 : ((Nat.gcd a b : Int) == 0) = false := by simp; omega
      have HL := hid (Nat.le_trans (Nat.div_le_self a (Nat.gcd a b)) ha.2)
      generalize hG2 : a / Nat.gcd a b = G2 at *
      have e5 : wrap64 ((G2 : Int) * (b : Int)) = ((G2 * b : Nat) : Int) := by rw [e4]; have := HQ.out; unfold wrap64; omega
      have e6 : wrap64 (G2 : Int) = (G2 : Int) := by have := HL.out; unfold wrap64; omega
      have E5 := hid e5
      have E6 := hid e6
      have KG := hid (show ((G2 * b : Nat) : Int) = (RR : Int) by rw [← HRR.out])
      clear hG2 e5 e6 e4 HRR
      generalize Nat.gcd a b = G at *
      go_wp2
      go_ret
      exact ⟨ret_int (by rw [E6.out, E5.out, KG.out]), hB⟩
    · have q : decide ((n : Int) > 0) = true := decide_eq_true (by omega)
      have e1 : ((m : Int) % (n : Int)) = ((m % n : Nat) : Int) := (Int.natCast_emod m n).symm
      have hlt := Nat.mod_lt m (show 0 < n by omega)
      have HN := hid (show Nat.gcd n (m % n) = Nat.gcd a b by rw [← HG.out, Nat.gcd_comm m n, Nat.gcd_rec n m, Nat.gcd_comm])
      go_wp2
      all_goals go_roundw
      case rel => exact ⟨n, m % n, by omega, by omega, rfl, by rw [e1], HN.out, hB⟩
      case measure => simp [intOf]; omega

theorem pow7 : ∀ j, j ≤ 7 → 7 ^ j ≤ 823543 := fun j hj => Nat.pow_le_pow_right (n := 7) (by omega) hj

set_option maxHeartbeats 1000000 in
theorem sPeriodOf_c (A : Option Addr) (c : Nat) (f : List Int) (w : World) (hR : RdA w A f) (hn : f.length ≤ 1048577) :
    Calls Try.prog 91 #[.slice A f.length c] w fun e w' => e = .returned (.int .i64 (periodV f)) ∧ Below w.heap.size w w' := by
  have c1 := sMapOk_c A c f w hR hn
  by_cases hf : mapOkB f = true
  · rw [hf] at c1
    have HE := hid (show periodV f = (per (loopsLL f) (loopsLL f).length : Int) from if_pos hf)
    have h7 := (good_of hf).1.2
    have C2 := hid (sLoopsOf_c A c f w hR hn)
    have HLO := hid (fun j (h : j < (loopsLL f).length) => loops_long (good_of hf) h)
    have HB := hid (per_bound (loopsLL f) fun j hj => ⟨(HLO.out j hj).1, by have := (HLO.out j hj).2; omega⟩)
    have hle := loopsLL_len f h7
    clear hf hR
    generalize loopsLL f = L at *
    go_enter Try.func91, Try.ntmps91
    go_wp2_with fail
    refine c1.mono ?_; rintro e w' ⟨rfl, rfl⟩
    clear c1
    go_wp2_with fail
    refine C2.out.mono ?_; rintro e w2 ⟨D, d, rfl, hrr, hb2⟩
    clear C2
    have HR2 := hid hrr
    clear hrr
    go_wp2_with fail
    go_loopw [3, 5] (fun p i wr => ∃ k : Nat, k ≤ L.length ∧ i = .int .i64 k ∧ p = .int .i64 (per L k : Nat) ∧ Below w2.heap.size w2 wr) (fun _ i _ => L.length - (intOf i).toNat)
    case atStart => exact ⟨0, Nat.zero_le _, rfl, rfl, Below.refl _ _⟩
    case round =>
      obtain ⟨k, hk, rfl, rfl, hb⟩ := hrel
      have hb3 := hb2.trans (hb.mono hb2.size)
      by_cases hlt : k < L.length
      · obtain ⟨g, E, e0, rfl, hg, hc, -⟩ := (HR2.out.below hb).at_ hlt
        obtain ⟨hl1, hl2⟩ := HLO.out k hlt
        obtain ⟨hp1, hp2⟩ := HB.out k (by omega)
        have hp3 := pow7 k (by omega)
        have c3 := hid (sCommon_c (per L k) (gl L k).length wr ⟨hp1, by omega⟩ (by omega))
        rw [show per L k / Nat.gcd (per L k) (gl L k).length * (gl L k).length = per L (k + 1) from rfl] at c3
        generalize hP' : per L (k + 1) = P' at *
        have KP := hid hP'
        clear hP'
        generalize per L k = P at *
        generalize (gl L k).length = Z at *
        go_wp2_with fail
        refine c3.out.mono ?_; rintro e w4 ⟨rfl, hb4⟩
        go_wp2_with fail
        go_roundw
        case rel => exact ⟨k + 1, by omega, by go_num, by rw [KP.out], hb.trans (hb4.mono hb.size)⟩
        case measure => simp [intOf]; omega
      · obtain rfl : k = L.length := by omega
        rw [← HE.out]
        go_wp2_with fail
        go_ret
        exact ⟨rfl, hb3⟩
  · have HE := hid (show periodV f = -1 from if_neg hf)
    rw [show mapOkB f = false by simpa using hf] at c1
    clear hf hR
    go_enter Try.func91, Try.ntmps91
    go_wp2_with fail
    refine c1.mono ?_; rintro e w' ⟨rfl, rfl⟩
    go_wp2_with fail
    go_ret
    exact ⟨ret_int HE.out.symm, Below.refl _ _⟩

end Go.Proofs.Ytenmgiocbdabdaa
