/- Contracts of chapter 2: ways and tails. -/
import Derived.Test.YtjipecfoiddkjaaQ5
import Derived.BigQuiet
import Derived.Deep.QuietTactic
namespace Go.Proofs.Ytjipecfoiddkjaa
open Go.RowKit
set_option linter.unusedVariables false

def wayL (f : List Int) (t : Int) : List Int := if thB f t = true then ints (way f t.toNat) else []
def tailV (f : List Int) (t : Int) : Int := if thB f t = true then (tail f t.toNat : Int) else -1
def loopV (f : List Int) (t : Int) : Int := if thB f t = true then (loop f t.toNat : Int) else -1
theorem th_no {f : List Int} {t : Int} (h : ¬ thB f t = true) : thB f t = false := by simpa using h
theorem th_nat {f : List Int} {t : Int} (h : thB f t = true) : ∃ n : Nat, t = (n : Int) ∧ n < f.length ∧ Good f := by
  obtain ⟨hf, h0, h1⟩ := thB_iff.1 h
  exact ⟨t.toNat, by omega, by omega, hf⟩
theorem wayL_yes {f : List Int} {n : Nat} (h : thB f n = true) : wayL f n = ints (way f n) := by rw [wayL, if_pos h]; rfl
theorem tailV_yes {f : List Int} {n : Nat} (h : thB f n = true) : tailV f n = (tail f n : Int) := by rw [tailV, if_pos h]; rfl
theorem loopV_yes {f : List Int} {n : Nat} (h : thB f n = true) : loopV f n = (loop f n : Int) := by rw [loopV, if_pos h]; rfl
theorem wayL_no {f : List Int} {t : Int} (h : ¬ thB f t = true) : wayL f t = [] := by rw [wayL, if_neg h]
theorem tailV_no {f : List Int} {t : Int} (h : ¬ thB f t = true) : tailV f t = -1 := by rw [tailV, if_neg h]
theorem loopV_no {f : List Int} {t : Int} (h : ¬ thB f t = true) : loopV f t = -1 := by rw [loopV, if_neg h]
theorem way_len (f : List Int) (n : Nat) : (ints (way f n)).length = rho f n := by rw [ints_len, way, walk_len]

theorem idxOf_ints (l : List Nat) (x : Nat) : (l.map Int.ofNat).idxOf (x : Int) = l.idxOf x := by
  induction l with
  | nil => rfl
  | cons a l ih =>
    rw [List.map_cons, List.idxOf_cons, List.idxOf_cons, ih]
    have : (Int.ofNat a == (x : Int)) = (a == x) := by
      rw [Bool.eq_iff_iff, beq_iff_eq, beq_iff_eq]
      exact ⟨fun h => by have h2 : (a : Int) = x := h; omega, fun h => by rw [h]; rfl⟩
    rw [this]

theorem iWayFrom_c (A : Option Addr) (c : Nat) (f : List Int) (t : Int) (w : World) (hR : RdA w A f) (hn : f.length ≤ 1048577) :
    Calls Try.prog 33 #[.slice A f.length c, .int .i64 t] w (RetI w (wayL f t)) := by
  have c1 := thingOk_c A c f t w hR hn
  by_cases h : thB f t = true
  · obtain ⟨n, rfl, hlt, hf⟩ := th_nat h
    have c2 := walked_c A c f n w hR hf hlt
    have HE := hid (wayL_yes h)
    rw [h] at c1
    clear h hR hf
    go_enter Try.func33, Try.ntmps33
    go_wp2_with fail
    refine c1.mono ?_; rintro e w' ⟨rfl, rfl⟩
    go_wp2_with fail
    refine c2.mono ?_; rintro e w' ⟨B, d, rfl, ho, hb⟩
    go_wp2_with fail
    go_ret
    rw [HE.out]
    exact retI_own ho hb
  · have HE := hid (wayL_no h)
    rw [th_no h] at c1
    clear h hR
    go_enter Try.func33, Try.ntmps33
    go_wp2_with fail
    refine c1.mono ?_; rintro e w' ⟨rfl, rfl⟩
    go_wp2_with fail
    go_ret
    rw [HE.out]
    exact (RetN.nil w).ret

theorem iTailOf_c (A : Option Addr) (c : Nat) (f : List Int) (t : Int) (w : World) (hR : RdA w A f) (hn : f.length ≤ 1048577) :
    Calls Try.prog 11 #[.slice A f.length c, .int .i64 t] w fun e w' => e = .returned (.int .i64 (tailV f t)) ∧ Below w.heap.size w w' := by
  have c1 := thingOk_c A c f t w hR hn
  by_cases h : thB f t = true
  · obtain ⟨n, rfl, hlt, hf⟩ := th_nat h
    have c2 := walked_c A c f n w hR hf hlt
    have HE := hid (tailV_yes h)
    have hl := rho_le hf hlt
    have h7 := hf.1.2
    have HM := hid (show (it f (rho f n) n : Int) ∈ ints (way f n) from by simp only [ints, List.mem_map]; exact ⟨_, rho_back hf hlt, rfl⟩)
    have HI := hid (show ((ints (way f n)).idxOf (it f (rho f n) n : Int)) = tail f n from by
      rw [tail, ints]
      exact idxOf_ints _ _)
    have HW := hid (way_len f n)
    rw [h] at c1
    clear h hR hf
    go_enter Try.func11, Try.ntmps11
    go_wp2_with fail
    refine c1.mono ?_; rintro e w' ⟨rfl, rfl⟩
    go_wp2_with fail
    refine c2.mono ?_; rintro e w' ⟨B, d, rfl, ho, hb⟩
    have c3 := index_c B d _ _ w' ho.rd (by rw [HW.out]; omega) HM.out
    rw [HI.out, HW.out] at c3
    go_wp2_with fail
    refine c3.mono ?_; rintro e w' ⟨rfl, rfl⟩
    go_wp2_with fail
    go_ret
    exact ⟨ret_int HE.out.symm, hb⟩
  · have HE := hid (tailV_no h)
    rw [th_no h] at c1
    clear h hR
    go_enter Try.func11, Try.ntmps11
    go_wp2_with fail
    refine c1.mono ?_; rintro e w' ⟨rfl, rfl⟩
    go_wp2_with fail
    go_ret
    exact ⟨ret_int HE.out.symm, Below.refl _ _⟩

theorem iLoopLong_c (A : Option Addr) (c : Nat) (f : List Int) (t : Int) (w : World) (hR : RdA w A f) (hn : f.length ≤ 1048577) :
    Calls Try.prog 12 #[.slice A f.length c, .int .i64 t] w fun e w' => e = .returned (.int .i64 (loopV f t)) ∧ Below w.heap.size w w' := by
  have c1 := thingOk_c A c f t w hR hn
  by_cases h : thB f t = true
  · obtain ⟨n, rfl, hlt, hf⟩ := th_nat h
    have c2 := iWayFrom_c A c f n w hR hn
    have HE := hid (loopV_yes h)
    have C3 := hid (fun W (hb : Below w.heap.size w W) => iTailOf_c A c f n W (hR.below hb) hn)
    rw [tailV_yes h] at C3
    rw [wayL_yes h] at c2
    have hr := rho_eq hf hlt
    have hl := rho_le hf hlt
    have h7 := hf.1.2
    have HW := hid (way_len f n)
    have K2 := hid c2
    rw [h] at c1
    clear h hR hf c2
    go_enter Try.func12, Try.ntmps12
    go_wp2_with fail
    refine c1.mono ?_; rintro e w' ⟨rfl, rfl⟩
    go_wp2_with fail
    refine K2.out.mono ?_; rintro e w' ⟨B, d, rfl, ho, hb⟩
    have c4 := C3.out w' hb
    rw [HW.out]
    clear C3 ho K2
    go_wp2_with fail
    refine c4.mono ?_; rintro e w2 ⟨rfl, hb2⟩
    have q : IntKind.i64.wrap ((rho f n : Int) - (tail f n : Int)) = (loop f n : Int) := by rw [IntWalk.i64_in _ (by omega)]; omega
    go_wp2_with fail
    go_ret
    exact ⟨ret_int (by rw [HE.out]; omega), hb.trans (hb2.mono hb.size)⟩
  · have HE := hid (loopV_no h)
    rw [th_no h] at c1
    clear h hR
    go_enter Try.func12, Try.ntmps12
    go_wp2_with fail
    refine c1.mono ?_; rintro e w' ⟨rfl, rfl⟩
    go_wp2_with fail
    go_ret
    exact ⟨ret_int HE.out.symm, Below.refl _ _⟩

theorem iOnLoop_c (A : Option Addr) (c : Nat) (f : List Int) (t : Int) (w : World) (hR : RdA w A f) (hn : f.length ≤ 1048577) :
    Calls Try.prog 63 #[.slice A f.length c, .int .i64 t] w fun e w' => e = .returned (.bool (tailV f t == 0)) ∧ Below w.heap.size w w' := by
  have c1 := iTailOf_c A c f t w hR hn
  clear hR
  generalize tailV f t = T at *
  go_enter Try.func63, Try.ntmps63
  go_wp2_with fail
  refine c1.mono ?_; rintro e w' ⟨rfl, hb⟩
  go_wp2_with fail
  go_ret
  exact ⟨rfl, hb⟩

theorem mask_shr (l : List Nat) (x : Nat) : (Int.tmod ((mask l : Int) / 2 ^ x) 2 == 0) = !decide (x ∈ l) := by
  have e1 : ((mask l : Int) / 2 ^ x) = ((mask l / 2 ^ x : Nat) : Int) := by
    rw [Int.natCast_ediv, Int.natCast_pow]; rfl
  have e2 := mask_bit l x
  rw [Nat.testBit_eq_decide_div_mod_eq] at e2
  rw [e1, ← e2]
  generalize mask l / 2 ^ x = m
  have e3 : Int.tmod (m : Int) 2 = ((m % 2 : Nat) : Int) := by
    rw [Int.tmod_eq_emod_of_nonneg (by omega)]; omega
  rw [e3]
  have : m % 2 = 0 ∨ m % 2 = 1 := by omega
  rcases this with h | h <;> rw [h] <;> rfl
theorem walk_back_iff {f : List Int} (hf : Good f) {n : Nat} (hn : n < f.length) {k : Nat} (hk : k ≤ rho f n) : decide (it f k n ∈ walk f n k) = decide (k = rho f n) := decide_eq_decide.2 (rho_first hf hn hk)

set_option maxRecDepth 20000 in
set_option maxHeartbeats 1000000 in
theorem sWayFrom_c (A : Option Addr) (c : Nat) (f : List Int) (t : Int) (w : World) (hR : RdA w A f) (hn : f.length ≤ 1048577) :
    Calls Try.prog 56 #[.slice A f.length c, .int .i64 t] w (RetI w (wayL f t)) := by
  have o0 := own_empty w
  have b0 : Below w.heap.size w (w.alloc (.cells #[] 3)) := (Below.refl _ _).alloc (Nat.le_refl _) _
  have c1 := sMapOk_c A c f _ (hR.below b0) hn
  by_cases h : thB f t = true
  · obtain ⟨n, rfl, hlt, hf⟩ := th_nat h
    rw [ok_of hf] at c1
    have HE := hid (wayL_yes h)
    have c3 := l1In_t n 0 ((f.length : Int) - 1) (w.alloc (.cells #[] 3)) (by omega)
    have hl := rho_le hf hlt
    have hrp := rho_pos hf hlt
    have h7 := hf.1.2
    have HF := hid hf
    clear h hf
    go_enter Try.func56, Try.ntmps56
    go_wp2_with fail
    refine c1.mono ?_; rintro e w' ⟨rfl, rfl⟩
    go_wp2_with fail
    refine c3.mono ?_; rintro e w' ⟨rfl, rfl⟩
    go_wp2_with fail
    clear c1 c3
    go_loopw [5, 6, 7] (fun v s i wr => ∃ k : Nat, k ≤ rho f n ∧ i = .int .i64 (it f k n) ∧ s = .int .i64 (mask (walk f n k)) ∧ Own w.heap.size wr v (ints (walk f n k)) ∧ Below w.heap.size w wr) (fun v _ _ _ => 8 - lenOf v)
    case atStart => exact ⟨0, Nat.zero_le _, rfl, rfl, o0, b0⟩
    case round =>
      clear o0 b0
      obtain ⟨k, hk, rfl, rfl, ho, hb⟩ := hrel
      have hit := HF.out.it_lt hlt k
      have q := mask_shr (walk f n k) (it f k n)
      rw [walk_back_iff HF.out hlt hk] at q
      have HI := hid (ints_walk f n k)
      have HL := hid (ints_walk_len f n k)
      have hsz := hb.size
      by_cases hkr : k = rho f n
      · subst hkr
        rw [decide_eq_true rfl, Bool.not_true] at q
        have HW := hid (show ints (walk f n (rho f n)) = wayL f n from HE.out.symm)
        rw [HW.out] at ho
        clear hR HI HL HE HF HW
        obtain ⟨A4, c4, rfl, _⟩ := ho.form
        generalize mask (walk f n (rho f n)) = M at *
        generalize it f (rho f n) n = X at *
        generalize wayL f n = W at *
        go_wp2_with fail
        go_ret
        exact retI_own ho hb
      · rw [decide_eq_false hkr, Bool.not_false] at q
        have q1 := mask_or (l := walk f n k) (x := it f k n) (mem_walk_lt HF.out hlt k) (by omega)
        rw [← walk_succ] at q1
        have HX := hid (show nth f (it f k n) = (it f (k + 1) n : Int) from HF.out.nth_ap hit)
        have HR := hid hR
        obtain ⟨ad, rfl, -⟩ := HR.out _ hit
        clear hR HE HF
        generalize hM' : mask (walk f n (k + 1)) = M' at *
        have HM := hid hM'
        generalize hY : it f (k + 1) n = Y at *
        have HY := hid hY
        clear hM' hY
        generalize mask (walk f n k) = M at *
        generalize it f k n = X at *
        go_wp2_with (at_builtin; refine wpList_app1 _ rfl _ _ rfl w.heap.size _ (ints (walk f n k)) rfl (ho.alloc _) wr.heap.size (X : Int) rfl (cell_one1 _ _ _) (by have := HL.out; omega) (by simp <;> omega) ?_; intro A3 c3 w3 o3 b3; have b3' : Below w.heap.size w w3 := (hb.alloc hsz _).trans b3; obtain ⟨ad', ee, hc⟩ := (HR.out.below b3') X hit; rw [HX.out] at hc; cases ee)
        rw [← HI.out] at o3
        obtain ⟨A0, c0, rfl, -⟩ := ho.form
        go_roundw
        case rel => exact ⟨k + 1, by omega, by rw [HY.out], by rw [HM.out], o3, b3'⟩
        case measure => simp [lenOf, ints_walk_len]; omega
  · have HE := hid (wayL_no h)
    rw [thB] at h
    by_cases hf : mapOkB f = true
    · rw [hf] at c1 h
      have c3 := l1In_f t 0 ((f.length : Int) - 1) (w.alloc (.cells #[] 3)) (by rw [Bool.true_and, decide_eq_true_eq] at h; omega)
      have h1 := (good_of hf).1
      clear h hf hR
      go_enter Try.func56, Try.ntmps56
      go_wp2_with fail
      refine c1.mono ?_; rintro e w' ⟨rfl, rfl⟩
      go_wp2_with fail
      refine c3.mono ?_; rintro e w' ⟨rfl, rfl⟩
      go_wp2_with fail
      go_ret
      rw [HE.out]
      exact retI_own o0 b0
    · rw [show mapOkB f = false by simpa using hf] at c1
      clear h hf hR
      go_enter Try.func56, Try.ntmps56
      go_wp2_with fail
      refine c1.mono ?_; rintro e w' ⟨rfl, rfl⟩
      go_wp2_with fail
      go_ret
      rw [HE.out]
      exact retI_own o0 b0

end Go.Proofs.Ytjipecfoiddkjaa
