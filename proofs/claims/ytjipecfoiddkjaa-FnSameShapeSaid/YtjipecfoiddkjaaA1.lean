/- Contracts of small functions of the counts. -/
import Derived.Test.YtjipecfoiddkjaaProg
import Derived.WalkKit
namespace Go.Proofs.Ytjipecfoiddkjaa
open Go.RowKit
set_option linter.unusedVariables false

theorem hid {p : Prop} (h : p) : Hid p := h

theorem ret_bool {a b : Bool} (h : a = b) : Ending.returned (.bool a) = .returned (.bool b) := by rw [h]
theorem ret_int {k : IntKind} {a b : Int} (h : a = b) : Ending.returned (.int k a) = .returned (.int k b) := by rw [h]

theorem l1In_t (n lo hi : Int) (w : World) (h : lo ≤ n ∧ n ≤ hi) :
    Calls Try.prog 43 #[.int .i64 n, .int .i64 lo, .int .i64 hi] w fun e w' => e = .returned (.bool true) ∧ w = w' := by
  obtain ⟨h1, h2⟩ := h
  go_enter Try.func43, Try.ntmps43
  go_wp2
  all_goals go_ret
  all_goals exact ⟨ret_bool (by first | rfl | (simp; omega)), rfl⟩
theorem l1In_f (n lo hi : Int) (w : World) (h : ¬ (lo ≤ n ∧ n ≤ hi)) :
    Calls Try.prog 43 #[.int .i64 n, .int .i64 lo, .int .i64 hi] w fun e w' => e = .returned (.bool false) ∧ w = w' := by
  go_enter Try.func43, Try.ntmps43
  go_wp2
  all_goals go_ret
  all_goals exact ⟨ret_bool (by first | rfl | (simp; omega)), rfl⟩
def partsN : Nat → Nat → Int
  | 0, 0 => 1
  | 0, _ + 1 => 0
  | _ + 1, 0 => 0
  | t + 1, l + 1 => if l + 1 > t + 1 then 0 else partsN t l + (l + 1) * partsN t (l + 1)

theorem partsN_bd : ∀ t ≤ 7, ∀ l ≤ 7, 0 ≤ partsN t l ∧ partsN t l ≤ 1000 := by decide +kernel
theorem partsN_bd' (t l : Int) (h1 : t ≤ 7) (h2 : l ≤ 7) : 0 ≤ partsN t.toNat l.toNat ∧ partsN t.toNat l.toNat ≤ 1000 := partsN_bd _ (by omega) _ (by omega)
theorem partsN_lt (t l : Nat) (h : t < l) : partsN t l = 0 := by
  cases t <;> cases l <;> simp [partsN] <;> omega
theorem partsN_z (t : Nat) : partsN (t + 1) 0 = 0 := rfl
theorem partsN_rec (t l : Int) (h : 0 < l) (h2 : l ≤ t) : partsN t.toNat l.toNat = partsN (t - 1).toNat (l - 1).toNat + l * partsN (t - 1).toNat l.toNat := by
  obtain ⟨a, rfl⟩ : ∃ a : Nat, t = a + 1 := ⟨(t - 1).toNat, by omega⟩
  obtain ⟨b, rfl⟩ : ∃ b : Nat, l = b + 1 := ⟨(l - 1).toNat, by omega⟩
  rw [show ((a : Int) + 1).toNat = a + 1 by omega, show ((b : Int) + 1).toNat = b + 1 by omega, partsN, if_neg (by omega)]
  congr 2 <;> congr 1 <;> omega

def partsOf (t l : Int) : Int := if (0 ≤ t ∧ t ≤ 7) ∧ (0 ≤ l ∧ l ≤ 7) then partsN t.toNat l.toNat else -1
end Go.Proofs.Ytjipecfoiddkjaa
