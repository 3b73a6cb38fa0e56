/- The reader of codes: l20Open, pick, odd. -/
import Derived.Test.YtjipecfoiddkjaaM4
import Derived.BigQuiet
import Derived.Deep.QuietTactic
namespace Go.Proofs.Ytjipecfoiddkjaa
open Go.RowKit
set_option linter.unusedVariables false

/-- a slice of bytes at A -/
def RdU (w : World) (B : Nat) (A : Option Addr) (n : Nat) : Prop := ∀ k, k < n → ∃ ad x, A = some ad ∧ ad.block < B ∧ w.cell? (ad.add k) = some (.int .u8 x) ∧ 0 ≤ x ∧ x ≤ 255
/-- block r is a reader that has been asked at most m times -/
def Rdr (w : World) (r m : Nat) : Prop := ∃ A n c p, w.heap[r]? = some (.cells #[.slice A n c, .int .i64 (p : Nat)] 55 (0, 0)) ∧ p ≤ m ∧ n ≤ 2000 ∧ RdU w r A n

def PickR (w : World) (r m : Nat) (n : Int) (e : Ending) (w' : World) : Prop := ∃ z : Int, e = .returned (.int .i64 z) ∧ 0 ≤ z ∧ z < n ∧ Rdr w' r (m + 1) ∧ w.grownBy w' (some r) ∧ w'.heap.size = w.heap.size

theorem rdr_set {w : World} {r p m : Nat} {A : Option Addr} {n c : Nat} (hb : w.heap[r]? = some (.cells #[.slice A n c, .int .i64 (p : Nat)] 55 (0, 0))) (hp : p ≤ m) (hn : n ≤ 2000) (hu : RdU w r A n) :
    Rdr (w.setCell ⟨r, 1, none⟩ (.int .i64 ((p : Int) + 1))) r (m + 1) ∧ w.grownBy (w.setCell ⟨r, 1, none⟩ (.int .i64 ((p : Int) + 1))) (some r) ∧ (w.setCell ⟨r, 1, none⟩ (.int .i64 ((p : Int) + 1))).heap.size = w.heap.size := by
  refine ⟨⟨A, n, c, p + 1, ?_, by omega, hn, fun k hk => ?_⟩, grown_store (World.grownBy.refl _ _) 1 _, by simp [World.setCell]⟩
  · have := heap_setCell_same w r 1 #[.slice A n c, .int .i64 (p : Nat)] 55 (.int .i64 ((p : Int) + 1)) hb
    rw [this]
    rfl
  · obtain ⟨ad, x, e, hlt, hc, h0, h1⟩ := hu k hk
    refine ⟨ad, x, e, hlt, ?_, h0, h1⟩
    rw [World.cell?_setCell_other w _ _ _ (fun e => by have := congrArg Addr.block e; rw [block_of_add] at this; simp at this; omega)]
    exact hc
theorem rdr_drew {w : World} {r m : Nat} (h : Rdr w r m) (q : Nat) : Rdr (w.drewN q) r m := h
theorem grown_drewN {a w : World} {row : Option Nat} (h : a.grownBy w row) (n : Nat) : a.grownBy (w.drewN n) row := ⟨h.os, h.tape, h.output, h.size, h.block⟩

theorem ofInt_i64 (a : Nat) (ha : a < 9223372036854775808) : (BitVec.ofInt 64 (a : Int)).toNat = a := by
  rw [BitVec.ofInt_natCast, BitVec.toNat_ofNat]; exact Nat.mod_eq_of_lt (by omega)
theorem i64_xor_nat (a b : Nat) (ha : a < 9223372036854775808) (hb : b < 9223372036854775808) : bits .xor .i64 (a : Int) (b : Int) = ((a ^^^ b : Nat) : Int) := by
  have hx : a ^^^ b < 2 ^ 63 := Nat.xor_lt_two_pow (by omega) (by omega)
  show IntKind.i64.wrap ((BitVec.ofInt 64 (a : Int) ^^^ BitVec.ofInt 64 (b : Int)).toNat : Int) = _
  rw [BitVec.toNat_xor, ofInt_i64 a ha, ofInt_i64 b hb, IntKind.wrap_i64]
  omega
theorem xor_bd (N : Nat) (h : N ≤ 1000000000) : 0 ≤ bits BinOp.xor IntKind.i64 (N : Int) ((N : Int) / 64) := by
  rw [show ((N : Int) / 64) = ((N / 64 : Nat) : Int) by omega, i64_xor_nat _ _ (by omega) (by omega)]
  exact Int.natCast_nonneg _

set_option maxHeartbeats 1000000 in
theorem pick_c (r m : Nat) (n : Int) (w : World) (hr : Rdr w r m) (hm : m ≤ 1000000) (h1 : 1 ≤ n) (h2 : n ≤ 1000000) :
    Calls Try.prog 42 #[.pointer (some ⟨r, 0, none⟩), .int .i64 n] w (PickR w r m n) := by
  obtain ⟨A, L, c, p, hb, hp, hL, hu⟩ := hr
  have hc0 : w.cell? ⟨r, 0, none⟩ = some (.slice A L c) := by rw [cell_of_row w r 0 _ _ _ hb]; rfl
  have hc1 : w.cell? ⟨r, 1, none⟩ = some (.int .i64 p) := by rw [cell_of_row w r 1 _ _ _ hb]; rfl
  have hf1 : w.frozen? ⟨r, 1, none⟩ = false := frozen_of_row w r 1 _ _ hb
  have HS := hid (rdr_set hb hp hL hu)
  by_cases h0 : L = 0
  · have hl0 : ((L : Int) == 0) = true := by simp [h0]
    clear hb hu h0
    go_enter Try.func42, Try.ntmps42
    go_wp2_with fail
    go_ret
    exact ⟨0, rfl, by omega, by omega, HS.out⟩
  · have hl0 : ((L : Int) == 0) = false := by simp [h0]
    by_cases hk : p < L
    · obtain ⟨ad, x, rfl, hlt, hx, hx0, hx1⟩ := hu p hk
      have hx' : (w.setCell ⟨r, 1, none⟩ (.int .i64 ((p : Int) + 1))).cell? (ad.add p) = some (.int .u8 x) := by
        rw [World.cell?_setCell_other w _ _ _ (fun e => by have := congrArg Addr.block e; rw [block_of_add] at this; simp at this; omega)]
        exact hx
      clear hb hu h0 hx
      go_enter Try.func42, Try.ntmps42
      go_wp2_with fail
      go_ret
      exact ⟨x % n, rfl, Int.emod_nonneg _ (by omega), Int.emod_lt_of_pos _ (by omega), HS.out⟩
    · have hl : 0 < L := by omega
      obtain ⟨ad, x, e1, hlt, hx, hx0, hx1⟩ := hu (p % L) (Nat.mod_lt _ hl)
      obtain ⟨ad', y, e2, hlt', hy, hy0, hy1⟩ := hu ((p * 7 + 3) % L) (Nat.mod_lt _ hl)
      subst e1
      injection e2 with e2
      subst e2
      have hx' : (w.setCell ⟨r, 1, none⟩ (.int .i64 ((p : Int) + 1))).cell? (ad.add (p % L)) = some (.int .u8 x) := by
        rw [World.cell?_setCell_other w _ _ _ (fun e => by have := congrArg Addr.block e; rw [block_of_add] at this; simp at this; omega)]
        exact hx
      have hy' : (w.setCell ⟨r, 1, none⟩ (.int .i64 ((p : Int) + 1))).cell? (ad.add ((p * 7 + 3) % L)) = some (.int .u8 y) := by
        rw [World.cell?_setCell_other w _ _ _ (fun e => by have := congrArg Addr.block e; rw [block_of_add] at this; simp at this; omega)]
        exact hy
      have hkk : L ≤ p := by omega
      have a1 : 0 ≤ (p : Int) % (L : Int) := Int.emod_nonneg _ (by omega)
      have a2 : (p : Int) % (L : Int) < (L : Int) := Int.emod_lt_of_pos _ (by omega)
      have a3 : 0 ≤ ((p : Int) * 7 + 3) % (L : Int) := Int.emod_nonneg _ (by omega)
      have a4 : ((p : Int) * 7 + 3) % (L : Int) < (L : Int) := Int.emod_lt_of_pos _ (by omega)
      have d0 : 0 ≤ (p : Int) / (L : Int) := Int.ediv_nonneg (by omega) (by omega)
      have d1 : (p : Int) / (L : Int) ≤ p := Int.ediv_le_self _ (by omega)
      have q1 : IntKind.i64.wrap ((p : Int) * 7) = p * 7 := IntWalk.i64_in _ (by omega)
      have q2 : IntKind.i64.wrap ((p : Int) * 7 + 3) = p * 7 + 3 := IntWalk.i64_in _ (by omega)
      have q3 : IntKind.i64.wrap (x * 131) = x * 131 := IntWalk.i64_in _ (by omega)
      have q4 : IntKind.i64.wrap (y * 1117) = y * 1117 := IntWalk.i64_in _ (by omega)
      have q5 : IntKind.i64.wrap (x * 131 + y * 1117) = x * 131 + y * 1117 := IntWalk.i64_in _ (by omega)
      have q6 : IntKind.i64.wrap ((p : Int) * 29) = p * 29 := IntWalk.i64_in _ (by omega)
      have q7 : IntKind.i64.wrap (x * 131 + y * 1117 + (p : Int) * 29) = x * 131 + y * 1117 + p * 29 := IntWalk.i64_in _ (by omega)
      have q8 : IntKind.i64.wrap ((p : Int) / (L : Int)) = (p : Int) / (L : Int) := IntWalk.i64_in _ (by omega)
      have q9 : IntKind.i64.wrap ((p : Int) / (L : Int) * 53) = (p : Int) / (L : Int) * 53 := IntWalk.i64_in _ (by omega)
      have q10 : IntKind.i64.wrap (x * 131 + y * 1117 + (p : Int) * 29 + (p : Int) / (L : Int) * 53) = x * 131 + y * 1117 + p * 29 + (p : Int) / (L : Int) * 53 := IntWalk.i64_in _ (by omega)
      have q11 : IntKind.i64.wrap x = x := IntWalk.i64_in _ (by omega)
      have q12 : IntKind.i64.wrap y = y := IntWalk.i64_in _ (by omega)
      clear hb hu h0 hx hy hk
      go_enter Try.func42, Try.ntmps42
      go_wp2_with fail
      go_quiet (fail)
      clear q1 q2 q3 q4 q5 q6 q7 q8 q9 q11 q12 a1 a2 a3 a4 hx' hy'
      have s0 : 0 ≤ x * 131 + y * 1117 + (p : Int) * 29 + (p : Int) / (L : Int) * 53 := by omega
      have s1 : x * 131 + y * 1117 + (p : Int) * 29 + (p : Int) / (L : Int) * 53 ≤ 1000000000 := by omega
      clear q10
      generalize x * 131 + y * 1117 + (p : Int) * 29 + (p : Int) / (L : Int) * 53 = S at *
      obtain ⟨N, rfl⟩ := Int.eq_ofNat_of_zero_le s0
      have X := hid (xor_bd N (by omega))
      go_wp2_with fail
      go_ret
      exact ⟨_, rfl, Int.tmod_nonneg _ X.out, Int.tmod_lt_of_pos _ (by omega), rdr_drew HS.out.1 _, grown_drewN HS.out.2.1 _, HS.out.2.2⟩

/-- 'once in n': some answer; the reader goes on by at most one -/
def OddR (w : World) (r m : Nat) (e : Ending) (w' : World) : Prop := ∃ b : Bool, e = .returned (.bool b) ∧ Rdr w' r (m + 1) ∧ w.grownBy w' (some r) ∧ w'.heap.size = w.heap.size
theorem Rdr.more {w : World} {r m m' : Nat} (h : Rdr w r m) (hm : m ≤ m') : Rdr w r m' := by
  obtain ⟨A, n, c, p, hb, hp, r⟩ := h
  exact ⟨A, n, c, p, hb, by omega, r⟩

theorem odd_c (r m : Nat) (n : Int) (w : World) (hr : Rdr w r m) (hm : m ≤ 1000000) (h1 : 0 ≤ n) (h2 : n ≤ 1000000) :
    Calls Try.prog 27 #[.pointer (some ⟨r, 0, none⟩), .int .i64 n] w (OddR w r m) := by
  by_cases h0 : 0 < n
  · have hp := pick_c r m n w hr hm (by omega) h2
    go_enter Try.func27, Try.ntmps27
    go_wp2_with fail
    refine hp.mono ?_
    rintro e w1 ⟨z, rfl, hz0, hz1, hr1, hg, hsz⟩
    have HZ := hid hsz
    clear hsz
    go_wp2_with fail
    all_goals go_ret
    all_goals exact ⟨_, rfl, hr1, hg, HZ.out⟩
  · obtain rfl : n = 0 := by omega
    clear h0
    go_enter Try.func27, Try.ntmps27
    go_wp2_with fail
    go_ret
    exact ⟨_, rfl, hr.more (by omega), World.grownBy.refl _ _, rfl⟩

/-- a new reader -/
def OpenR (w : World) (e : Ending) (w' : World) : Prop := ∃ r, e = .returned (.pointer (some ⟨r, 0, none⟩)) ∧ Rdr w' r 0 ∧ Below w.heap.size w w' ∧ w.heap.size ≤ r ∧ r < w'.heap.size

theorem RowIn.bytes {w : World} {a : Option Addr} {len cap : Nat} {zs : List Int} (h : RowIn .u8 w a len cap zs) (B : Nat) (hB : w.heap.size ≤ B) (n : Nat) (hn : n ≤ len) : RdU w B a n := by
  rcases h with ⟨rfl, rfl, rfl, rfl⟩ | ⟨x, rfl, hl, hm, hz, hc, hw⟩
  · intro k hk; omega
  · intro k hk
    have hc' := hc k (by omega)
    have := hw _ (List.getElem_mem (l := zs) (show k < zs.length by omega))
    refine ⟨x, zs.getD k 0, rfl, ?_, hc', ?_⟩
    · have := lt_of_cell hc'
      rw [block_of_add] at this
      omega
    · rw [List.getD_eq_getElem?_getD, List.getElem?_eq_getElem (by omega)]
      simpa [Lit.wf, IntKind.min, IntKind.max, IntKind.signed, IntKind.bits] using this

theorem open_end (w : World) (a : Option Addr) (n cap : Nat) (hu : RdU w w.heap.size a n) (hn : n ≤ 2000) :
    Rdr (w.alloc (.cells #[.slice a n cap, .int .i64 0] 55)) w.heap.size 0 ∧ Below w.heap.size w (w.alloc (.cells #[.slice a n cap, .int .i64 0] 55)) := by
  refine ⟨⟨a, n, cap, 0, heap_alloc_new _ _, Nat.le_refl _, hn, fun k hk => ?_⟩, (Below.refl _ _).alloc (Nat.le_refl _) _⟩
  obtain ⟨ad, x, e, hlt, hc, hx⟩ := hu k hk
  exact ⟨ad, x, e, hlt, (World.cell?_alloc_lt w _ _ (by rw [block_of_add]; exact hlt)).trans hc, hx⟩

theorem open_c (a : Option Addr) (len cap : Nat) (zs : List Int) (w : World) (h : RowIn .u8 w a len cap zs) (hn : len ≤ 1048576) :
    Calls Try.prog 24 #[.slice a len cap] w (OpenR w) := by
  by_cases hl : 2000 < len
  · have hu := h.bytes w.heap.size (Nat.le_refl _) 2000 (by omega)
    have hcap : 2000 ≤ cap := by
      rcases h with ⟨rfl, rfl, rfl, rfl⟩ | ⟨x, rfl, hl', _⟩ <;> omega
    have HE := hid (open_end w a 2000 cap hu (Nat.le_refl _))
    clear h hu
    go_enter Try.func24, Try.ntmps24
    go_wp2_with fail
    go_ret
    exact ⟨w.heap.size, rfl, HE.out.1, HE.out.2, Nat.le_refl _, by simp⟩
  · have hu := h.bytes w.heap.size (Nat.le_refl _) len (by omega)
    have HE := hid (open_end w a len cap hu (by omega))
    clear h hu
    go_enter Try.func24, Try.ntmps24
    go_wp2_with fail
    go_ret
    exact ⟨w.heap.size, rfl, HE.out.1, HE.out.2, Nat.le_refl _, by simp⟩

end Go.Proofs.Ytjipecfoiddkjaa
