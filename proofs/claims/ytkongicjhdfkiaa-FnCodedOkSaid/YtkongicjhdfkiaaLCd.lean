/- The walk of the law FnCodedOk. -/
import Derived.Test.YtkongicjhdfkiaaD3
import Derived.Test.YtkongicjhdfkiaaM5
namespace Go.Proofs.Ytkongicjhdfkiaa
open Go.RowKit
set_option linter.unusedVariables false

theorem codedB_zeros (n : Nat) : codedB (List.replicate n 0) = decide (n < 7) := by
  simp only [codedB, List.length_replicate]
  rw [List.all_eq_true.2 (fun x hx => by rw [List.eq_of_mem_replicate hx]; simp), Bool.and_true]

theorem run_mk (n : Nat) (hn : n ≤ 1000000000000) (w : World) :
    (Instr.makeSlice 26 (.int .i64 (n : Int)) (.int .i64 (n : Int))).run Try.prog w = .ok (.slice (some ⟨w.heap.size, 0, none⟩) n n) (w.alloc (.cells (madeCells #[.int .i64 0] n) 3)) := by
  obtain ⟨i0, hi, hz0, hz1, hz2⟩ := info_parts info_int
  have hr := run_make (P := Try.prog) w 26 3 i0 (.int .i64 0) Try.underlying26 hi hz0 .i64 .i64 n n (by omega) (by omega) (by rw [hz2]; omega) (by omega)
  simp only [Int.toNat_natCast] at hr
  rw [hr, hz1, Nat.mul_one]
  rfl
theorem own_mk (w : World) (n : Nat) (hn : n ≤ 1000000000000) : Own w.heap.size (w.alloc (.cells (madeCells #[.int .i64 0] n) 3)) (.slice (some ⟨w.heap.size, 0, none⟩) n n) (List.replicate n 0) := by
  have := World.ownsRow_lit (base := w.heap.size) (e := 3) (size := 1) w (madeCells #[.int .i64 0] n) n (Nat.le_refl _) (by unfold maxLen; omega) (by simp [size_madeCells])
  rw [toList_madeCells_one] at this
  unfold Own
  simpa using this

set_option maxHeartbeats 1000000 in
theorem FnCodedOk_w (a : Option Addr) (len cap : Nat) (zs : List Int) (w : World) (h : RowIn .u8 w a len cap zs) :
    Calls Try.prog 13 #[.slice a len cap] w fun e w' => e = .returned (.bool true) ∧ Below w.heap.size w w' := by
  have hcap := h.cap
  unfold maxLen at hcap
  by_cases hbig : 1048576 < len
  · clear h
    go_enter Try.func13, Try.ntmps13
    go_wp2_with fail
    go_ret
    exact ⟨rfl, Below.refl _ _⟩
  · have hd := DrawCodedOk_c a len cap zs w h (by omega)
    clear h
    go_enter Try.func13, Try.ntmps13
    go_wp2_with fail
    refine hd.mono ?_
    rintro e w1 ⟨xs, A, c, hx, rfl, o1, B1⟩
    clear hd
    go_wp2_with fail
    refine (iCodedOk_c A c xs w1 o1.rd (by omega)).mono ?_
    rintro e w1' ⟨rfl, rfl⟩
    go_wp2_with fail
    refine (sCodedOk_c A c xs w1 o1.rd (by omega)).mono ?_
    rintro e w1' ⟨rfl, rfl⟩
    generalize codedB xs = bb
    clear o1
    go_wp2_with fail
    have o2 := Own.new_ w1 [] #[] rfl (by decide)
    have B2 : Below w.heap.size w (w1.alloc (.cells #[] 3)) := B1.alloc B1.size _
    have k2 := iCodedOk_c _ 0 [] _ o2.rd (by decide)
    rw [show codedB [] = true by decide] at k2
    refine k2.mono ?_
    rintro e w2' ⟨rfl, rfl⟩
    clear k2 o2
    generalize w1.alloc (.cells #[] 3) = w2 at *
    have hmk := run_mk xs.length (by omega)
    go_wp2_with fail
    have o3 := own_mk w2 xs.length (by omega)
    have B3 : Below w.heap.size w (w2.alloc (.cells (madeCells #[.int .i64 0] xs.length) 3)) := B2.alloc B2.size _
    clear hmk
    generalize w2.alloc (.cells (madeCells #[.int .i64 0] xs.length) 3) = w3 at *
    have k3 := iCodedOk_c _ xs.length (List.replicate xs.length 0) w3 o3.rd (by simp; omega)
    rw [codedB_zeros, List.length_replicate] at k3
    refine k3.mono ?_
    rintro e w3' ⟨rfl, rfl⟩
    clear k3 o3
    go_wp2_with fail
    refine (alive_c _).mono ?_
    rintro e w4 ⟨rfl, hb4⟩
    have B4 := B3.trans (hb4.mono B3.size)
    go_wp2_with fail
    go_ret
    exact ⟨ret_bool (by simp), B4⟩

end Go.Proofs.Ytkongicjhdfkiaa
