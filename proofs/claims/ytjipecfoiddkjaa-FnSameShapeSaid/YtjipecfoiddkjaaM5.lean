/- Contracts: MapOk of the program (and of the reference, where the seat has it); alive. -/
import Derived.Test.YtjipecfoiddkjaaM2
namespace Go.Proofs.Ytjipecfoiddkjaa
open Go.RowKit
set_option linter.unusedVariables false


theorem has_t (A : Option Addr) (n c : Nat) (z : Int) (w : World) (h : 0 ≤ z ∧ z < n) :
    Calls Try.prog 46 #[.slice A n c, .int .i64 z] w fun e w' => e = .returned (.bool true) ∧ w = w' := by
  obtain ⟨h1, h2⟩ := h
  go_enter Try.func46, Try.ntmps46
  go_wp2_with fail
  all_goals go_ret
  all_goals exact ⟨ret_bool (by first | rfl | (simp; omega)), rfl⟩
theorem has_f (A : Option Addr) (n c : Nat) (z : Int) (w : World) (h : ¬ (0 ≤ z ∧ z < n)) :
    Calls Try.prog 46 #[.slice A n c, .int .i64 z] w fun e w' => e = .returned (.bool false) ∧ w = w' := by
  go_enter Try.func46, Try.ntmps46
  go_wp2_with fail
  all_goals go_ret
  all_goals exact ⟨ret_bool (by first | rfl | (simp; omega)), rfl⟩

theorem ok_c (A : Option Addr) (c : Nat) (xs : List Int) (w : World) (hR : RdA w A xs) (hn : xs.length ≤ 1048577) :
    Calls Try.prog 40 #[.slice A xs.length c] w fun e w' => e = .returned (.bool (mapOkB xs)) ∧ w = w' := by
  by_cases hl : 1 ≤ xs.length ∧ xs.length ≤ 7
  · obtain ⟨hl1, hl2⟩ := hl
    go_enter Try.func40, Try.ntmps40
    go_wp2_with fail
    go_loop [15] (fun i => ∃ k : Nat, k ≤ xs.length ∧ i = .int .i64 k ∧ Hid (∀ j, j < k → 0 ≤ nth xs j ∧ nth xs j < xs.length)) (fun i => xs.length - (intOf i).toNat)
    case atStart => exact ⟨0, Nat.zero_le _, rfl, hid (fun j hj => by omega)⟩
    case round =>
      obtain ⟨k, hk, rfl, hall⟩ := hrel
      by_cases hlt : k < xs.length
      · obtain ⟨ad, rfl, hc⟩ := hR k hlt
        clear hR
        by_cases hx : 0 ≤ nth xs k ∧ nth xs k < xs.length
        · go_wp2_with fail
          refine (has_t _ _ _ _ _ hx).mono ?_; rintro e w' ⟨rfl, rfl⟩
          have HX := hid hx
          clear hx
          go_wp2_with fail
          go_round
          case rel => exact ⟨k + 1, by omega, by go_num, hid (fun j hj => by rcases Nat.lt_succ_iff_lt_or_eq.1 hj with h | rfl; exact hall.out j h; exact HX.out)⟩
          case measure => simp [intOf]; omega
        · have HN := hid (mapOkB_no hlt hx)
          go_wp2_with fail
          refine (has_f _ _ _ _ _ hx).mono ?_; rintro e w' ⟨rfl, rfl⟩
          go_wp2_with fail
          go_ret
          exact ⟨ret_bool HN.out.symm, rfl⟩
      · obtain rfl : k = xs.length := by omega
        have HN := hid (mapOkB_all hall.out)
        clear hR
        go_wp2_with fail
        go_ret
        exact ⟨ret_bool (by rw [HN.out]; simp; omega), rfl⟩
  · have HN := hid (mapOkB_len hl)
    by_cases h1 : xs.length < 1
    · clear hl hR
      go_enter Try.func40, Try.ntmps40
      go_wp2_with fail
      go_ret
      exact ⟨ret_bool HN.out.symm, rfl⟩
    · have h7 : 7 < xs.length := by omega
      have h1' : decide ((xs.length : Int) < 1) = false := by simp; omega
      clear hl hR h1
      go_enter Try.func40, Try.ntmps40
      go_wp2_with fail
      go_ret
      exact ⟨ret_bool HN.out.symm, rfl⟩

theorem iMapOk_c (A : Option Addr) (c : Nat) (xs : List Int) (w : World) (hR : RdA w A xs) (hn : xs.length ≤ 1048577) :
    Calls Try.prog 18 #[.slice A xs.length c] w fun e w' => e = .returned (.bool (mapOkB xs)) ∧ w = w' := by
  have h := ok_c A c xs w hR hn
  clear hR
  go_enter Try.func18, Try.ntmps18
  go_wp2_with fail
  refine h.mono ?_; rintro e w' ⟨rfl, rfl⟩
  go_wp2_with fail
  go_ret
  exact ⟨rfl, rfl⟩

theorem two_new (w : World) (x y : Int) : Own w.heap.size (w.alloc (.cells #[.int .i64 x, .int .i64 y] 3)) (.slice (some ⟨w.heap.size, 0, none⟩) 2 2) [x, y] :=
  Own.new_ w [x, y] #[.int .i64 x, .int .i64 y] rfl (by show 2 ≤ maxLen; decide)

theorem alive_c (w : World) :
    Calls Try.prog 10 #[] w fun e w' => e = .returned (.bool true) ∧ Below w.heap.size w w' := by
  have h1 := iMapOk_c (some ⟨w.heap.size, 0, none⟩) 2 [1, 0] _ (two_new w 1 0).rd (by decide)
  have h2 := iMapOk_c (some ⟨(w.alloc (.cells #[.int .i64 1, .int .i64 0] 3)).heap.size, 0, none⟩) 2 [2, 0] _ (two_new (w.alloc (.cells #[.int .i64 1, .int .i64 0] 3)) 2 0).rd (by decide)
  rw [show mapOkB [1, 0] = true by decide] at h1
  rw [show mapOkB [2, 0] = false by decide] at h2
  simp only [World.size_alloc] at h2
  have H1 := hid h1
  have H2 := hid h2
  clear h1 h2
  go_enter Try.func10, Try.ntmps10
  go_wp2_with fail
  refine H1.out.mono ?_; rintro e w' ⟨rfl, rfl⟩
  go_wp2_with fail
  refine H2.out.mono ?_; rintro e w' ⟨rfl, rfl⟩
  go_wp2_with fail
  go_ret
  exact ⟨rfl, ((Below.refl _ _).alloc (Nat.le_refl _) _).alloc (by simp) _⟩

end Go.Proofs.Ytjipecfoiddkjaa
