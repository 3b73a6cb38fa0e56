/- Contracts of chapters 2 and 4: least things of loops (the reference's), heights, index. -/
import Derived.Test.YtenmgiocbdabdaaQ9
namespace Go.Proofs.Ytenmgiocbdabdaa
open Go.RowKit
set_option linter.unusedVariables false

theorem th_of {f : List Int} (hf : Good f) {k : Nat} (hk : k < f.length) : thB f k = true := thB_iff.2 ⟨hf, by omega, by omega⟩
/-- the greatest tail of the first k things -/
def hiT (f : List Int) : Nat → Int
  | 0 => -1
  | k + 1 => if hiT f k < (tail f k : Int) then (tail f k : Int) else hiT f k
def highV (f : List Int) : Int := if mapOkB f = true then hiT f f.length else -1
theorem hiT_le (f : List Int) : ∀ k j, j < k → (tail f j : Int) ≤ hiT f k
  | 0, j, h => by omega
  | k + 1, j, h => by
    rw [hiT]
    by_cases e : j = k
    · subst e; split <;> omega
    · have := hiT_le f k j (by omega)
      split <;> omega
theorem hiT_mem (f : List Int) : ∀ k, 0 < k → ∃ j, j < k ∧ hiT f k = (tail f j : Int)
  | 0, h => by omega
  | k + 1, h => by
    rw [hiT]
    by_cases h1 : hiT f k < (tail f k : Int)
    · exact ⟨k, by omega, by rw [if_pos h1]⟩
    · rw [if_neg h1]
      by_cases hk : 0 < k
      · obtain ⟨j, hj, e⟩ := hiT_mem f k hk
        exact ⟨j, by omega, e⟩
      · obtain rfl : k = 0 := by omega
        simp [hiT] at h1
        omega
theorem hiT_low (f : List Int) : ∀ k, -1 ≤ hiT f k
  | 0 => by simp [hiT]
  | k + 1 => by
    have := hiT_low f k
    rw [hiT]
    split <;> omega
theorem hiT_high {f : List Int} (hf : Good f) {k : Nat} (hk : k ≤ f.length) : hiT f k < f.length := by
  cases k with
  | zero => simp only [hiT]; omega
  | succ k =>
    obtain ⟨j, hj, e⟩ := hiT_mem f (k + 1) (by omega)
    have := tail_le hf (show j < f.length by omega)
    omega

set_option maxHeartbeats 400000 in
theorem iHighOf_c (A : Option Addr) (c : Nat) (f : List Int) (w : World) (hR : RdA w A f) (hn : f.length ≤ 1048577) :
    Calls Try.prog 144 #[.slice A f.length c] w fun e w' => e = .returned (.int .i64 (highV f)) ∧ Below w.heap.size w w' := by
  have c1 := iMapOk_c A c f w hR hn
  by_cases hf : mapOkB f = true
  · rw [hf] at c1
    have HE := hid (show highV f = hiT f f.length from if_pos hf)
    have HG := hid (good_of hf)
    have h7 := (good_of hf).1.2
    have C2 := hid (fun (t : Int) W (hb : Below w.heap.size w W) => iTailOf_c A c f t W (hR.below hb) hn)
    clear hf hR
    go_enter Try.func144, Try.ntmps144
    go_wp2_with fail
    refine c1.mono ?_; rintro e w' ⟨rfl, rfl⟩
    clear c1
    go_wp2_with fail
    go_loopw [3, 11] (fun h i wr => ∃ k : Nat, k ≤ f.length ∧ i = .int .i64 k ∧ h = .int .i64 (hiT f k) ∧ Below w.heap.size w wr) (fun _ i _ => f.length - (intOf i).toNat)
    case atStart => exact ⟨0, Nat.zero_le _, rfl, rfl, Below.refl _ _⟩
    case round =>
      obtain ⟨k, hk, rfl, rfl, hb⟩ := hrel
      by_cases hlt : k < f.length
      · have c2 := C2.out k wr hb
        rw [tailV_yes (th_of HG.out hlt)] at c2
        have HS := hid (show hiT f (k + 1) = if hiT f k < (tail f k : Int) then (tail f k : Int) else hiT f k from rfl)
        generalize hiT f k = M at *
        generalize tail f k = T at *
        clear C2
        go_wp2_with fail
        refine c2.mono ?_; rintro e w2 ⟨rfl, hb2⟩
        go_wp2_with fail
        go_roundw
        case rel => exact ⟨k + 1, by omega, by go_num, by rw [HS.out], hb.trans (hb2.mono hb.size)⟩
        case measure => simp [intOf]; omega
      · obtain rfl : k = f.length := by omega
        clear C2
        rw [← HE.out]
        go_wp2_with fail
        go_ret
        exact ⟨rfl, hb⟩
  · have HE := hid (show highV f = -1 from if_neg hf)
    rw [show mapOkB f = false by simpa using hf] at c1
    clear hf hR
    go_enter Try.func144, Try.ntmps144
    go_wp2_with fail
    refine c1.mono ?_; rintro e w' ⟨rfl, rfl⟩
    go_wp2_with fail
    go_ret
    exact ⟨ret_int HE.out.symm, Below.refl _ _⟩

set_option maxHeartbeats 400000 in
theorem sHighOf_c (A : Option Addr) (c : Nat) (f : List Int) (w : World) (hR : RdA w A f) (hn : f.length ≤ 1048577) :
    Calls Try.prog 142 #[.slice A f.length c] w fun e w' => e = .returned (.int .i64 (highV f)) ∧ Below w.heap.size w w' := by
  have C1 := hid (fun W (hb : Below w.heap.size w W) => sMapOk_c A c f W (hR.below hb) hn)
  by_cases hf : mapOkB f = true
  · rw [hf] at C1
    have HE := hid (show highV f = hiT f f.length from if_pos hf)
    have HG := hid (good_of hf)
    have h7 := (good_of hf).1.2
    have C2 := hid (fun (t : Int) W (hb : Below w.heap.size w W) => sTailOf_c A c f t W (hR.below hb) hn)
    clear hf hR
    go_enter Try.func142, Try.ntmps142
    go_wp2_with fail
    go_loopw [3, 4] (fun h i wr => ∃ k : Nat, k ≤ f.length ∧ i = .int .i64 k ∧ h = .int .i64 (hiT f k) ∧ Below w.heap.size w wr) (fun _ i _ => f.length - (intOf i).toNat)
    case atStart => exact ⟨0, Nat.zero_le _, rfl, rfl, Below.refl _ _⟩
    case round =>
      obtain ⟨k, hk, rfl, rfl, hb⟩ := hrel
      have K1 := hid (C1.out wr hb)
      by_cases hlt : k < f.length
      · have c2 := C2.out k wr hb
        rw [tailV_yes (th_of HG.out hlt)] at c2
        have HS := hid (show hiT f (k + 1) = if hiT f k < (tail f k : Int) then (tail f k : Int) else hiT f k from rfl)
        generalize hiT f k = M at *
        generalize tail f k = T at *
        clear C1 C2
        go_wp2_with fail
        refine K1.out.mono ?_; rintro e w' ⟨rfl, rfl⟩
        go_wp2_with fail
        refine c2.mono ?_; rintro e w2 ⟨rfl, hb2⟩
        go_wp2_with fail
        go_roundw
        case rel => exact ⟨k + 1, by omega, by go_num, by rw [HS.out], hb.trans (hb2.mono hb.size)⟩
        case measure => simp [intOf]; omega
      · obtain rfl : k = f.length := by omega
        clear C1 C2
        rw [← HE.out]
        go_wp2_with fail
        go_ret
        exact ⟨rfl, hb⟩
  · have HE := hid (show highV f = -1 from if_neg hf)
    rw [show mapOkB f = false by simpa using hf] at C1
    have K1 := hid (C1.out w (Below.refl _ _))
    clear hf hR C1
    by_cases h0 : 0 < f.length
    · go_enter Try.func142, Try.ntmps142
      go_wp2_with fail
      refine wp_loop_rounds 1 ?_
      rw [rounds_succ]
      go_wp2_with fail
      refine K1.out.mono ?_; rintro e w' ⟨rfl, rfl⟩
      go_wp2_with fail
      go_ret
      exact ⟨ret_int HE.out.symm, Below.refl _ _⟩
    · have q1 : decide ((0 : Int) < (f.length : Int)) = false := decide_eq_false (by omega)
      have q0 : decide (0 < f.length) = false := decide_eq_false (by omega)
      clear h0
      go_enter Try.func142, Try.ntmps142
      go_wp2_with fail
      refine wp_loop_rounds 1 ?_
      rw [rounds_succ]
      go_wp2_with fail
      go_ret
      exact ⟨ret_int HE.out.symm, Below.refl _ _⟩

theorem mem_loopL' {f : List Int} {n x : Nat} : x ∈ loopL f n ↔ ∃ j, tail f n ≤ j ∧ j < rho f n ∧ it f j n = x := by
  constructor
  · intro h
    obtain ⟨i, hi, rfl⟩ := List.getElem_of_mem h
    have hi' := hi
    rw [loopL_len, loop] at hi'
    refine ⟨tail f n + i, by omega, by omega, ?_⟩
    simp only [loopL, List.getElem_drop, way, walk_get]
  · rintro ⟨j, h1, h2, rfl⟩
    have hi : j - tail f n < (loopL f n).length := by rw [loopL_len, loop]; omega
    have := List.getElem_mem hi
    simp only [loopL, List.getElem_drop, way, walk_get] at this
    rw [show tail f n + (j - tail f n) = j by omega] at this
    exact this
/-- the least thing among those of the loop that the first k steps have seen; -1 ahead of it -/
def bst (f : List Int) (n : Nat) : Nat → Int
  | 0 => -1
  | k + 1 => if tail f n ≤ k ∧ (bst f n k < 0 ∨ (it f k n : Int) < bst f n k) then (it f k n : Int) else bst f n k
theorem bst_low (f : List Int) (n : Nat) : ∀ k, k ≤ tail f n → bst f n k = -1
  | 0, _ => rfl
  | k + 1, h => by rw [bst, if_neg (fun h' => by omega), bst_low f n k (by omega)]
theorem bst_spec (f : List Int) (n : Nat) : ∀ k, tail f n < k → (∃ j, tail f n ≤ j ∧ j < k ∧ bst f n k = (it f j n : Int)) ∧ ∀ j, tail f n ≤ j → j < k → bst f n k ≤ (it f j n : Int)
  | 0, h => by omega
  | k + 1, h => by
    by_cases hk : tail f n < k
    · obtain ⟨⟨j, h1, h2, e⟩, hall⟩ := bst_spec f n k hk
      by_cases hx : (it f k n : Int) < bst f n k
      · rw [bst, if_pos ⟨by omega, .inr hx⟩]
        refine ⟨⟨k, by omega, by omega, rfl⟩, fun j h3 h4 => ?_⟩
        by_cases hjk : j = k
        · subst hjk; omega
        · have := hall j h3 (by omega); omega
      · rw [bst, if_neg (fun h' => by rcases h'.2 with h5 | h5 <;> omega)]
        refine ⟨⟨j, h1, by omega, e⟩, fun j h3 h4 => ?_⟩
        by_cases hjk : j = k
        · subst hjk; omega
        · exact hall j h3 (by omega)
    · obtain rfl : k = tail f n := by omega
      rw [bst, if_pos ⟨by omega, .inl (by rw [bst_low _ _ _ (Nat.le_refl _)]; decide)⟩]
      refine ⟨⟨tail f n, by omega, by omega, rfl⟩, fun j h3 h4 => ?_⟩
      obtain rfl : j = tail f n := by omega
      exact Int.le_refl _
theorem bst_all {f : List Int} (hf : Good f) {n : Nat} (hn : n < f.length) : bst f n (rho f n) = (loopOf f n : Int) := by
  obtain ⟨⟨j, h1, h2, e⟩, hall⟩ := bst_spec f n (rho f n) (tail_lt hf hn)
  rw [e, loopOf, minL_eq (mem_loopL'.2 ⟨j, h1, h2, rfl⟩)]
  intro x hx
  obtain ⟨i, h3, h4, rfl⟩ := mem_loopL'.1 hx
  have := hall i h3 h4
  omega

end Go.Proofs.Ytenmgiocbdabdaa
