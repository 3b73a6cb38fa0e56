/- Contracts of chapter 2: tails of the reference, least things of loops. -/
import Derived.Test.YtjipecfoiddkjaaQ7
namespace Go.Proofs.Ytjipecfoiddkjaa
open Go.RowKit
set_option linter.unusedVariables false

theorem nth_way (f : List Int) (n k : Nat) (hk : k < rho f n) : nth (ints (way f n)) k = (it f k n : Int) := by
  have h : k < (way f n).length := by rw [way, walk_len]; exact hk
  rw [nth_ints h]
  simp only [way, walk_get]

set_option maxHeartbeats 1000000 in
theorem sTailOf_c (A : Option Addr) (c : Nat) (f : List Int) (t : Int) (w : World) (hR : RdA w A f) (hn : f.length ≤ 1048577) :
    Calls Try.prog 68 #[.slice A f.length c, .int .i64 t] w fun e w' => e = .returned (.int .i64 (tailV f t)) ∧ Below w.heap.size w w' := by
  have c1 := sWayFrom_c A c f t w hR hn
  by_cases h : thB f t = true
  · obtain ⟨n, rfl, hlt, hf⟩ := th_nat h
    rw [wayL_yes h] at c1
    have HE := hid (tailV_yes h)
    have hl := rho_le hf hlt
    have hrp := rho_pos hf hlt
    have htl := tail_lt hf hlt
    have h7 := hf.1.2
    have HF := hid hf
    have HW := hid (way_len f n)
    have C1 := hid c1
    clear h hf c1
    go_enter Try.func68, Try.ntmps68
    go_wp2_with fail
    refine C1.out.mono ?_; rintro e w2 ⟨A2, c2, rfl, ho, hb⟩
    rw [HW.out]
    obtain ⟨g, c2', e2, _, _⟩ := ho.pos (by rw [HW.out]; exact hrp)
    cases e2
    have HO := hid ho
    have HR := hid (hR.below hb)
    clear ho hR C1
    go_wp2_with fail
    go_loopw [6] (fun i wr => ∃ k : Nat, k ≤ tail f n ∧ i = .int .i64 k ∧ Below w2.heap.size w2 wr) (fun i _ => rho f n - (intOf i).toNat)
    case atStart => exact ⟨0, Nat.zero_le _, rfl, Below.refl _ _⟩
    case round =>
      obtain ⟨k, hk, rfl, hb3⟩ := hrel
      have ho := HO.out.below (hb3.mono (Nat.le_refl _))
      have hc1 := ho.cell (k := k) (by rw [HW.out]; omega)
      rw [nth_way f n k (by omega)] at hc1
      have hc2 := ho.cell (k := rho f n - 1) (by rw [HW.out]; omega)
      rw [nth_way f n _ (by omega)] at hc2
      have hit := HF.out.it_lt hlt (rho f n - 1)
      obtain ⟨ad, rfl, hc3⟩ := (HR.out.below hb3) _ hit
      rw [HF.out.nth_ap hit, show ap f (it f (rho f n - 1) n) = it f (rho f n) n by rw [show rho f n = (rho f n - 1) + 1 by omega]; rfl] at hc3
      have HB := hid (hb.trans (hb3.mono hb.size))
      have q0 : IntKind.i64.wrap ((rho f n : Int) - 1) = ((rho f n - 1 : Nat) : Int) := by rw [IntWalk.i64_in _ (by omega)]; omega
      have q00 : ((rho f n : Int) - 1) = ((rho f n - 1 : Nat) : Int) := by omega
      have HB3 := hid hb3
      clear ho hb3
      by_cases hkt : k = tail f n
      · subst hkt
        have q : ((it f (tail f n) n : Int) == (it f (rho f n) n : Int)) = true := by rw [tail_it HF.out hlt]; simp
        rw [tail_it HF.out hlt] at hc1 q
        generalize it f (rho f n - 1) n = X at *
        generalize it f (rho f n) n = Y at *
        generalize rho f n - 1 = l at *
        generalize hT : tail f n = T at *
        clear HO HR
        go_wp2
        rw [q0] at *
        go_region
        all_goals go_wp2
        all_goals go_ret
        all_goals exact ⟨ret_int (by rw [HE.out]), by first | exact HB.out.drew | exact HB.out⟩
      · have q : ((it f k n : Int) == (it f (rho f n) n : Int)) = false := by
          have : it f k n ≠ it f (rho f n) n := fun e => hkt (it_inj HF.out hlt (by omega) htl (e.trans (tail_it HF.out hlt).symm))
          simp; omega
        generalize it f (rho f n - 1) n = X at *
        generalize it f (rho f n) n = Y at *
        generalize it f k n = Z at *
        generalize rho f n - 1 = l at *
        clear HO HR
        go_wp2
        rw [q0] at *
        go_region
        all_goals go_wp2
        all_goals go_roundw
        case rel => exact ⟨k + 1, by omega, by go_num, by first | exact HB3.out.drew | exact HB3.out⟩
        case measure => simp [intOf]; omega
  · have HE := hid (tailV_no h)
    rw [wayL_no h] at c1
    clear h hR
    go_enter Try.func68, Try.ntmps68
    go_wp2_with fail
    refine c1.mono ?_; rintro e w2 ⟨A2, c2, rfl, ho, hb⟩
    rw [show ([] : List Int).length = 0 from rfl]
    go_wp2_with fail
    refine wp_loop_rounds 1 ?_
    rw [rounds_succ]
    go_wp2_with fail
    go_ret
    exact ⟨ret_int HE.out.symm, hb⟩

theorem sOnLoop_c (A : Option Addr) (c : Nat) (f : List Int) (t : Int) (w : World) (hR : RdA w A f) (hn : f.length ≤ 1048577) :
    Calls Try.prog 54 #[.slice A f.length c, .int .i64 t] w fun e w' => e = .returned (.bool (tailV f t == 0)) ∧ Below w.heap.size w w' := by
  have c1 := sTailOf_c A c f t w hR hn
  clear hR
  generalize tailV f t = T at *
  go_enter Try.func54, Try.ntmps54
  go_wp2_with fail
  refine c1.mono ?_; rintro e w' ⟨rfl, hb⟩
  go_wp2_with fail
  go_ret
  exact ⟨rfl, hb⟩

end Go.Proofs.Ytjipecfoiddkjaa
