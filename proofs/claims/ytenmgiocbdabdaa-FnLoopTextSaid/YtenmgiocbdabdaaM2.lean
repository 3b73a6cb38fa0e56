/- Contracts of the laws' own helpers over slices of integers: toIntS, eqIntS, markIntS, heldIntS. -/
import Derived.Test.YtenmgiocbdabdaaM1
import Derived.BigQuiet
namespace Go.Proofs.Ytenmgiocbdabdaa
open Go.RowKit
set_option linter.unusedVariables false

def fillT (xs : List Int) (k : Nat) : List Int := xs.take k ++ List.replicate (xs.length - k) 0
theorem fillT_len (xs : List Int) (k : Nat) (h : k ≤ xs.length) : (fillT xs k).length = xs.length := by simp [fillT]; omega
theorem fillT_set (xs : List Int) (k : Nat) (h : k < xs.length) : (fillT xs k).set k (nth xs k) = fillT xs (k + 1) := by
  unfold fillT
  rw [List.set_append_right _ _ (by simp; omega), take_nth h]
  have e : xs.length - k = (xs.length - (k + 1)) + 1 := by omega
  rw [e, List.replicate_succ]
  simp [show min k xs.length = k by omega]

set_option maxHeartbeats 400000 in
theorem toIntS_c (A : Option Addr) (c : Nat) (xs : List Int) (w : World) (hR : RdA w A xs) (hn : xs.length ≤ 1048576) :
    Calls Try.prog 46 #[.slice A xs.length c] w (RetI w xs) := by
  go_enter Try.func46, Try.ntmps46
  go_wp2_with (at_make; refine wpList_mk _ rfl _ _ rfl _ xs.length rfl rfl rfl (by omega) ?_; intro w1 hown hb)
  go_loopw [4] (fun i wr => ∃ k : Nat, k ≤ xs.length ∧ i = .int .i64 k ∧ Own w.heap.size wr (.slice (some ⟨w.heap.size, 0, none⟩) xs.length xs.length) (fillT xs k) ∧ Below w.heap.size w wr) (fun i _ => xs.length - (intOf i).toNat)
  case atStart => exact ⟨0, Nat.zero_le _, rfl, by simpa [fillT] using hown, hb⟩
  case round =>
    clear hown hb
    obtain ⟨k, hk, rfl, hown, hb⟩ := hrel
    by_cases hlt : k < xs.length
    · obtain ⟨ad, rfl, hc⟩ := (hR.below hb) k hlt
      have hc2 := hown.cell (k := k) (by rw [fillT_len _ _ hk]; exact hlt)
      have hf2 := hown.frozen k
      have hs := hown.store k (nth xs k)
      rw [fillT_set xs k hlt] at hs
      have hbs := hb.setCell (p := ⟨w.heap.size, k, none⟩) (Nat.le_refl _) (.int .i64 (nth xs k))
      have HS := hid (And.intro hs hbs)
      clear hs hbs hown hb hR
      go_wp2
      go_roundw
      case rel => exact ⟨k + 1, by omega, by go_num, HS.out.1, HS.out.2⟩
      case measure => simp [intOf]; omega
    · obtain rfl : k = xs.length := by omega
      have HS := hid (And.intro hown hb)
      clear hown hb
      go_wp2
      go_ret
      refine ⟨_, _, rfl, ?_, HS.out.2⟩
      have := HS.out.1
      simpa [fillT] using this

theorem eqlen {xs ys : List Int} (hl : xs.length = ys.length) {k : Nat} (hk : k < xs.length) (h : xs.take k = ys.take k) (he : nth xs k = nth ys k) : xs.take (k + 1) = ys.take (k + 1) := by
  rw [take_nth hk, take_nth (by omega), h, he]
theorem neq_nth {xs ys : List Int} {k : Nat} (he : ¬ nth xs k = nth ys k) : ¬ xs = ys := fun e => he (by rw [e])

set_option maxHeartbeats 400000 in
theorem eqIntS_c (A B : Option Addr) (c d : Nat) (xs ys : List Int) (w : World) (hR : RdA w A xs) (hS : RdA w B ys) (hn : xs.length ≤ 1048577) (hm : ys.length ≤ 1048577) :
    Calls Try.prog 48 #[.slice A xs.length c, .slice B ys.length d] w fun e w' => e = .returned (.bool (decide (xs = ys))) ∧ Below w.heap.size w w' := by
  by_cases hl : xs.length = ys.length
  · have hl' : ((xs.length : Int) == (ys.length : Int)) = true := by simp [hl]
    have HL := hid hl
    have e1 : ys.length = xs.length := hl.symm
    rw [e1] at hl' hm ⊢
    clear e1 hl
    go_enter Try.func48, Try.ntmps48
    go_wp2
    go_loopw [5] (fun i wr => ∃ k : Nat, k ≤ xs.length ∧ i = .int .i64 k ∧ xs.take k = ys.take k ∧ Below w.heap.size w wr) (fun i _ => xs.length - (intOf i).toNat)
    case atStart => exact ⟨0, Nat.zero_le _, rfl, rfl, Below.refl _ _⟩
    case round =>
      obtain ⟨k, hk, rfl, ht, hb⟩ := hrel
      have HT := hid ht
      clear ht
      by_cases hlt : k < xs.length
      · obtain ⟨ad, rfl, hc⟩ := (hR.below hb) k hlt
        obtain ⟨bd, rfl, hc2⟩ := (hS.below hb) k (by have := HL.out; omega)
        clear hR hS
        have HB := hid hb
        clear hb
        by_cases he : nth xs k = nth ys k
        · have HE := hid (eqlen HL.out hlt HT.out he)
          rw [he] at hc
          go_wp2
          go_region
          all_goals go_wp2
          all_goals go_roundw
          case rel => exact ⟨k + 1, by omega, by go_num, HE.out, HB.out.drew⟩
          case measure => simp [intOf]; omega
        · have hne : (nth xs k == nth ys k) = false := by simpa using he
          have HE := hid (neq_nth he)
          clear he
          go_wp2
          go_region
          all_goals go_wp2
          all_goals go_ret
          all_goals exact ⟨ret_bool (by simp [HE.out]), HB.out.drew⟩
      · obtain rfl : k = xs.length := by omega
        have HB := hid hb
        clear hb
        go_wp2
        go_ret
        refine ⟨ret_bool ?_, HB.out⟩
        have := HT.out
        rw [List.take_length, HL.out, List.take_length] at this
        simp [this]
  · have hl' : ((xs.length : Int) == (ys.length : Int)) = false := by simp; omega
    have HL := hid hl
    clear hl
    go_enter Try.func48, Try.ntmps48
    go_wp2
    go_ret
    exact ⟨ret_bool (by simp; intro e; exact HL.out (by rw [e])), Below.refl _ _⟩

/-! ### markIntS, heldIntS -/
def upFrom (k0 : Int) (n : Nat) : List Int := (List.range n).map fun (i : Nat) => k0 + (i : Int)
theorem upFrom_len (k0 : Int) (n : Nat) : (upFrom k0 n).length = n := by simp [upFrom]
theorem upFrom_nth {k0 : Int} {n k : Nat} (h : k < n) : nth (upFrom k0 n) k = k0 + k := by simp [nth, upFrom, h]
def markT (k0 : Int) (xs : List Int) (k : Nat) : List Int := upFrom k0 k ++ xs.drop k
theorem markT_len {k0 : Int} {xs : List Int} {k : Nat} (h : k ≤ xs.length) : (markT k0 xs k).length = xs.length := by simp [markT, upFrom_len]; omega
theorem markT_set {k0 : Int} {xs : List Int} {k : Nat} (h : k < xs.length) : (markT k0 xs k).set k (k0 + k) = markT k0 xs (k + 1) := by
  unfold markT
  rw [List.set_append_right _ _ (by simp [upFrom_len]), upFrom_len, Nat.sub_self]
  rw [List.drop_eq_getElem_cons h, List.set_cons_zero]
  simp [upFrom, List.range_succ]

theorem grown_store {w wr : World} {g : Nat} (h : w.grownBy wr (some g)) (i : Nat) (u : Value) : w.grownBy (wr.setCell ⟨g, i, none⟩ u) (some g) :=
  ⟨h.os, h.tape, h.output, by simpa [World.setCell] using h.size, fun k hk hne => (Below.heap_setCell wr ⟨g, i, none⟩ u k (fun e => hne (by simp [e]))).trans (h.block k hk hne)⟩

theorem markIntS_c (B g c : Nat) (xs : List Int) (k0 : Int) (w : World) (hown : Own B w (.slice (some ⟨g, 0, none⟩) xs.length c) xs) (hn : xs.length ≤ 1048577) (h0 : 0 ≤ k0) (h1 : k0 ≤ 1000000000) :
    Calls Try.prog 53 #[.slice (some ⟨g, 0, none⟩) xs.length c, .int .i64 k0] w fun e w' => e = .returned (.int .i64 (k0 + xs.length)) ∧
      Own B w' (.slice (some ⟨g, 0, none⟩) xs.length c) (upFrom k0 xs.length) ∧ w.grownBy w' (some g) ∧ w'.heap.size = w.heap.size := by
  go_enter Try.func53, Try.ntmps53
  go_wp2
  go_loopw [1, 5] (fun s i wr => ∃ k : Nat, k ≤ xs.length ∧ i = .int .i64 k ∧ s = .int .i64 (k0 + k) ∧ Own B wr (.slice (some ⟨g, 0, none⟩) xs.length c) (markT k0 xs k) ∧ w.grownBy wr (some g) ∧ wr.heap.size = w.heap.size) (fun _ i _ => xs.length - (intOf i).toNat)
  case atStart => exact ⟨0, Nat.zero_le _, rfl, by simp, by simpa [markT, upFrom] using hown, World.grownBy.refl _ _, rfl⟩
  case round =>
    clear hown
    obtain ⟨k, hk, rfl, rfl, hown, hb, hz⟩ := hrel
    have HZ := hid hz
    clear hz
    by_cases hlt : k < xs.length
    · have hc2 := hown.cell (k := k) (by rw [markT_len hk]; exact hlt)
      have hf2 := hown.frozen k
      have hs := hown.store k (k0 + k)
      rw [markT_set hlt] at hs
      have hbs := grown_store hb k (.int .i64 (k0 + k))
      have HS := hid (And.intro hs hbs)
      clear hs hbs hown hb
      go_wp2
      go_roundw
      case rel => exact ⟨k + 1, by omega, by go_num, by go_num, HS.out.1, HS.out.2, by simpa [World.setCell] using HZ.out⟩
      case measure => simp [intOf]; omega
    · obtain rfl : k = xs.length := by omega
      have HS := hid (And.intro hown hb)
      clear hown hb
      go_wp2
      go_ret
      refine ⟨rfl, ?_, HS.out.2, HZ.out⟩
      have := HS.out.1
      simpa [markT] using this

theorem markIntS_nil (A : Option Addr) (c : Nat) (k0 : Int) (w : World) :
    Calls Try.prog 53 #[.slice A 0 c, .int .i64 k0] w fun e w' => e = .returned (.int .i64 k0) ∧ w = w' := by
  go_enter Try.func53, Try.ntmps53
  go_wp2
  refine wp_loop_rounds 1 ?_
  rw [rounds_succ]
  go_wp2
  go_ret
  exact ⟨rfl, rfl⟩

theorem heldIntS_c (A : Option Addr) (c n : Nat) (k0 : Int) (w : World) (hR : RdA w A (upFrom k0 n)) (hn : n ≤ 1048577) (h0 : 0 ≤ k0) (h1 : k0 ≤ 1000000000) :
    Calls Try.prog 54 #[.slice A n c, .int .i64 k0] w fun e w' => e = .returned (.int .i64 (k0 + n)) ∧ w = w' := by
  go_enter Try.func54, Try.ntmps54
  go_wp2
  go_loop [1, 5] (fun s i => ∃ k : Nat, k ≤ n ∧ i = .int .i64 k ∧ s = .int .i64 (k0 + k)) (fun _ i => n - (intOf i).toNat)
  case atStart => exact ⟨0, Nat.zero_le _, rfl, by simp⟩
  case round =>
    obtain ⟨k, hk, rfl, rfl⟩ := hrel
    by_cases hlt : k < n
    · obtain ⟨ad, rfl, hc⟩ := hR k (by rw [upFrom_len]; exact hlt)
      rw [upFrom_nth hlt] at hc
      clear hR
      go_wp2
      go_round
      case rel => exact ⟨k + 1, by omega, by go_num, by go_num⟩
      case measure => simp [intOf]; omega
    · obtain rfl : k = n := by omega
      clear hR
      go_wp2
      go_ret
      exact ⟨rfl, rfl⟩

end Go.Proofs.Ytenmgiocbdabdaa
