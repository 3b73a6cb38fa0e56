/- Contracts of chapters 2 and 4: LoopOf of the reference, lots, index, idempotent maps. -/
import Derived.Test.YtjipecfoiddkjaaQ10
import Derived.Test.YtjipecfoiddkjaaQ2
namespace Go.Proofs.Ytjipecfoiddkjaa
open Go.RowKit
set_option linter.unusedVariables false

set_option maxHeartbeats 1000000 in
theorem sLoopOf_c (A : Option Addr) (c : Nat) (f : List Int) (t : Int) (w : World) (hR : RdA w A f) (hn : f.length ≤ 1048577) :
    Calls Try.prog 55 #[.slice A f.length c, .int .i64 t] w fun e w' => e = .returned (.int .i64 (lotV f t)) ∧ Below w.heap.size w w' := by
  have c1 := sWayFrom_c A c f t w hR hn
  by_cases h : thB f t = true
  · obtain ⟨n, rfl, hlt, hf⟩ := th_nat h
    rw [wayL_yes h] at c1
    have HE := hid ((bst_all hf hlt).trans (lotV_yes h).symm)
    have C2 := hid (fun W (hb : Below w.heap.size w W) => sTailOf_c A c f n W (hR.below hb) hn)
    rw [tailV_yes h] at C2
    have hl := rho_le hf hlt
    have hrp := rho_pos hf hlt
    have htl := tail_lt hf hlt
    have h7 := hf.1.2
    have HW := hid (way_len f n)
    have C1 := hid c1
    clear h hf c1 hR
    go_enter Try.func55, Try.ntmps55
    go_wp2_with fail
    refine C1.out.mono ?_; rintro e w2 ⟨A2, c2, rfl, ho, hb⟩
    rw [HW.out]
    obtain ⟨g, c2', e2, _, _⟩ := ho.pos (by rw [HW.out]; exact hrp)
    cases e2
    have HO := hid ho
    clear ho C1
    go_wp2_with fail
    go_loopw [6, 7] (fun b i wr => ∃ k : Nat, k ≤ rho f n ∧ i = .int .i64 k ∧ b = .int .i64 (bst f n k) ∧ Below w2.heap.size w2 wr) (fun _ i _ => rho f n - (intOf i).toNat)
    case atStart => exact ⟨0, Nat.zero_le _, rfl, rfl, Below.refl _ _⟩
    case round =>
      obtain ⟨k, hk, rfl, rfl, hb3⟩ := hrel
      have HB := hid (hb.trans (hb3.mono hb.size))
      by_cases hkr : k < rho f n
      · have c2 := C2.out wr HB.out
        have HS := hid (show bst f n (k + 1) = if tail f n ≤ k ∧ (bst f n k < 0 ∨ (it f k n : Int) < bst f n k) then (it f k n : Int) else bst f n k from rfl)
        have HO3 := hid (fun W (hb4 : Below wr.heap.size wr W) => (((HO.out.below (hb3.mono (Nat.le_refl _))).below (hb4.mono (Nat.le_refl _))).cell (k := k) (by rw [HW.out]; exact hkr)).trans (by rw [nth_way f n k hkr]))
        clear C2
        by_cases hkt : tail f n ≤ k
        · by_cases hlow : bst f n k < 0
          · have q := decide_eq_true hlow
            have HS' := hid (HS.out.trans (if_pos ⟨hkt, .inl hlow⟩))
            clear hlow
            generalize bst f n k = M at *
            generalize it f k n = X at *
            go_wp2_with fail
            refine c2.mono ?_; rintro e w4 ⟨rfl, hb4⟩
            have hc := HO3.out w4 hb4
            go_wp2_with fail
            go_roundw
            case rel => exact ⟨k + 1, by omega, by go_num, by rw [HS'.out], hb3.trans (hb4.mono hb3.size)⟩
            case measure => simp [intOf]; omega
          · have q := decide_eq_false hlow
            by_cases hx : (it f k n : Int) < bst f n k
            · have q2 := decide_eq_true hx
              have HS' := hid (HS.out.trans (if_pos ⟨hkt, .inr hx⟩))
              clear hx hlow
              generalize bst f n k = M at *
              generalize it f k n = X at *
              go_wp2_with fail
              refine c2.mono ?_; rintro e w4 ⟨rfl, hb4⟩
              have hc := HO3.out w4 hb4
              go_wp2_with fail
              go_roundw
              case rel => exact ⟨k + 1, by omega, by go_num, by rw [HS'.out], hb3.trans (hb4.mono hb3.size)⟩
              case measure => simp [intOf]; omega
            · have q2 := decide_eq_false hx
              have HS' := hid (HS.out.trans (if_neg (fun h => h.2.elim hlow hx)))
              clear hx hlow
              generalize bst f n k = M at *
              generalize it f k n = X at *
              go_wp2_with fail
              refine c2.mono ?_; rintro e w4 ⟨rfl, hb4⟩
              have hc := HO3.out w4 hb4
              go_wp2_with fail
              go_roundw
              case rel => exact ⟨k + 1, by omega, by go_num, by rw [HS'.out], hb3.trans (hb4.mono hb3.size)⟩
              case measure => simp [intOf]; omega
        · have HS' := hid (HS.out.trans (if_neg (fun h => hkt h.1)))
          generalize bst f n k = M at *
          generalize it f k n = X at *
          go_wp2_with fail
          refine c2.mono ?_; rintro e w4 ⟨rfl, hb4⟩
          go_wp2_with fail
          go_roundw
          case rel => exact ⟨k + 1, by omega, by go_num, by rw [HS'.out], hb3.trans (hb4.mono hb3.size)⟩
          case measure => simp [intOf]; omega
      · obtain rfl : k = rho f n := by omega
        rw [HE.out]
        clear C2
        go_wp2_with fail
        go_ret
        exact ⟨rfl, HB.out⟩
  · have HE := hid (lotV_no h)
    rw [wayL_no h] at c1
    clear h hR
    go_enter Try.func55, Try.ntmps55
    go_wp2_with fail
    refine c1.mono ?_; rintro e w2 ⟨A2, c2, rfl, ho, hb⟩
    rw [show ([] : List Int).length = 0 from rfl]
    go_wp2_with fail
    refine wp_loop_rounds 1 ?_
    rw [rounds_succ]
    go_wp2_with fail
    go_ret
    exact ⟨ret_int HE.out.symm, hb⟩

def indexV (f : List Int) : Int := if mapOkB f = true then (if highV f ≤ 1 then 1 else highV f) else -1



def idemB (f : List Int) : Bool := mapOkB f && decide (behindL f f = f)


end Go.Proofs.Ytjipecfoiddkjaa
