/- Contracts of chapter 2: all loops. -/
import Derived.Test.YtjipecfoiddkjaaR1
namespace Go.Proofs.Ytjipecfoiddkjaa
open Go.RowKit
set_option linter.unusedVariables false

/-- the loops whose least things are among the first k -/
def loopsK (f : List Int) : Nat → List (List Int)
  | 0 => []
  | k + 1 => if loopOf f k = k then loopsK f k ++ [ints (way f k)] else loopsK f k
def loopsLL (f : List Int) : List (List Int) := if mapOkB f = true then loopsK f f.length else []
theorem loopsK_len (f : List Int) : ∀ k, (loopsK f k).length ≤ k
  | 0 => by simp [loopsK]
  | k + 1 => by
    have := loopsK_len f k
    rw [loopsK]
    split
    · rw [List.length_append]; simp; omega
    · omega
/-- new rows are handed back -/
def RetRR (w : World) (xss : List (List Int)) (e : Ending) (w' : World) : Prop := ∃ A c, e = .returned (.slice A xss.length c) ∧ OwnRR w.heap.size w' (.slice A xss.length c) xss ∧ Below w.heap.size w w'
theorem retRR_own {w wr : World} {v : Value} {L : List (List Int)} (ho : OwnRR w.heap.size wr v L) (hb : Below w.heap.size w wr) : RetRR w L (.returned v) wr := by
  obtain ⟨A, c, rfl⟩ := ho.form
  exact ⟨A, c, rfl, ho, hb⟩
theorem cell_oneS (w : World) (v : Value) (t : TypeId) : (w.alloc (.cells #[v] t)).cell? ⟨w.heap.size, 0, none⟩ = some v := by
  rw [World.cell?_alloc_at _ _ _ _ rfl]; rfl

set_option maxHeartbeats 1000000 in
theorem iLoopsOf_c (A : Option Addr) (c : Nat) (f : List Int) (w : World) (hR : RdA w A f) (hn : f.length ≤ 1048577) :
    Calls Try.prog 19 #[.slice A f.length c] w (RetRR w (loopsLL f)) := by
  have c1 := iMapOk_c A c f w hR hn
  by_cases hf : mapOkB f = true
  · rw [hf] at c1
    have HE := hid (show loopsLL f = loopsK f f.length from if_pos hf)
    have HG := hid (good_of hf)
    have h7 := (good_of hf).1.2
    have C2 := hid (fun (t : Int) W (hb : Below w.heap.size w W) => iLoopOf_c A c f t W (hR.below hb) hn)
    have C3 := hid (fun (t : Int) W (hb : Below w.heap.size w W) => iWayFrom_c A c f t W (hR.below hb) hn)
    clear hf hR
    go_enter Try.func19, Try.ntmps19
    go_wp2_with fail
    refine c1.mono ?_; rintro e w' ⟨rfl, rfl⟩
    clear c1
    go_wp2_with fail
    go_loopw [3, 10] (fun v i wr => ∃ k : Nat, k ≤ f.length ∧ i = .int .i64 k ∧ OwnRR w.heap.size wr v (loopsK f k) ∧ Below w.heap.size w wr) (fun _ i _ => f.length - (intOf i).toNat)
    case atStart => exact ⟨0, Nat.zero_le _, rfl, OwnRR.nil _ _, Below.refl _ _⟩
    case round =>
      obtain ⟨k, hk, rfl, ho, hb⟩ := hrel
      by_cases hlt : k < f.length
      · have c2 := C2.out k wr hb
        rw [lotV_yes (th_of HG.out hlt)] at c2
        have HLEN := hid (loopsK_len f k)
        by_cases hlk : loopOf f k = k
        · have HS := hid (show loopsK f (k + 1) = loopsK f k ++ [ints (way f k)] by rw [loopsK, if_pos hlk])
          rw [hlk] at c2
          have K3 := hid (fun W hb => C3.out (k : Int) W hb)
          rw [wayL_yes (th_of HG.out hlt)] at K3
          generalize loopsK f k = M at *
          generalize ints (way f k) = Z at *
          clear C2 C3 hlk
          go_wp2_with fail
          refine c2.mono ?_; rintro e w2 ⟨rfl, hb2⟩
          have hb2' := hb.trans (hb2.mono hb.size)
          have k3 := hid (K3.out w2 hb2')
          clear K3
          go_wp2_with fail
          refine k3.out.mono ?_; rintro e w3 ⟨D, d, rfl, hz, hb3⟩
          have hb3' := hb2'.trans (hb3.mono hb2'.size)
          have ho3 := (ho.below (hb2.mono (Nat.le_refl _))).below (hb3.mono (Nat.le_refl _))
          have hz3 := hz.mono hb2'.size
          have hsz := hb3'.size
          go_wp2_with (at_builtin; refine wpList_appR _ rfl _ _ rfl w.heap.size _ M rfl (ho3.alloc _) w3.heap.size D d Z (hz3.alloc _) rfl (cell_oneS _ _ _) (by have := HLEN.out; omega) (by simp <;> omega) ?_; intro A4 c4 w4 o4 b4)
          have b4' : Below w.heap.size w w4 := (hb3'.alloc hsz _).trans b4
          clear b4 ho ho3 hz hz3
          go_wp2_with fail
          go_roundw
          case rel => exact ⟨k + 1, by omega, by go_num, by rw [HS.out]; exact o4, b4'⟩
          case measure => simp [intOf]; omega
        · have HS := hid (show loopsK f (k + 1) = loopsK f k by rw [loopsK, if_neg hlk])
          have q : ((loopOf f k : Int) == (k : Int)) = false := by simp; omega
          generalize loopsK f k = M at *
          generalize loopOf f k = T at *
          clear C2 C3 hlk
          go_wp2_with fail
          refine c2.mono ?_; rintro e w2 ⟨rfl, hb2⟩
          go_wp2_with fail
          go_roundw
          case rel => exact ⟨k + 1, by omega, by go_num, by rw [HS.out]; exact ho.below (hb2.mono (Nat.le_refl _)), hb.trans (hb2.mono hb.size)⟩
          case measure => simp [intOf]; omega
      · obtain rfl : k = f.length := by omega
        clear C2 C3
        rw [← HE.out] at ho
        obtain ⟨A4, c4, rfl⟩ := ho.form
        go_wp2_with fail
        go_ret
        exact retRR_own ho hb
  · have HE := hid (show loopsLL f = [] from if_neg hf)
    rw [show mapOkB f = false by simpa using hf] at c1
    clear hf hR
    go_enter Try.func19, Try.ntmps19
    go_wp2_with fail
    refine c1.mono ?_; rintro e w' ⟨rfl, rfl⟩
    go_wp2_with fail
    go_ret
    rw [HE.out]
    exact retRR_own (OwnRR.nil _ _) (Below.refl _ _)

set_option maxHeartbeats 1000000 in
theorem sLoopsOf_c (A : Option Addr) (c : Nat) (f : List Int) (w : World) (hR : RdA w A f) (hn : f.length ≤ 1048577) :
    Calls Try.prog 37 #[.slice A f.length c] w (RetRR w (loopsLL f)) := by
  have o0 := OwnRR.new_ w
  have b0 : Below w.heap.size w (w.alloc (.cells #[] 23)) := (Below.refl _ _).alloc (Nat.le_refl _) _
  have C1 := hid (fun W (hb : Below w.heap.size w W) => sMapOk_c A c f W (hR.below hb) hn)
  by_cases hf : mapOkB f = true
  · rw [hf] at C1
    have HE := hid (show loopsLL f = loopsK f f.length from if_pos hf)
    have HG := hid (good_of hf)
    have h7 := (good_of hf).1.2
    have C2 := hid (fun (t : Int) W (hb : Below w.heap.size w W) => sLoopOf_c A c f t W (hR.below hb) hn)
    have C3 := hid (fun (t : Int) W (hb : Below w.heap.size w W) => sWayFrom_c A c f t W (hR.below hb) hn)
    have C5 := hid (fun (t : Int) W (hb : Below w.heap.size w W) => sOnLoop_c A c f t W (hR.below hb) hn)
    clear hf hR
    go_enter Try.func37, Try.ntmps37
    go_wp2_with fail
    go_loopw [3, 4] (fun v i wr => ∃ k : Nat, k ≤ f.length ∧ i = .int .i64 k ∧ OwnRR w.heap.size wr v (loopsK f k) ∧ Below w.heap.size w wr) (fun _ i _ => f.length - (intOf i).toNat)
    case atStart => exact ⟨0, Nat.zero_le _, rfl, o0, b0⟩
    case round =>
      clear o0 b0
      obtain ⟨k, hk, rfl, ho, hb⟩ := hrel
      have K1 := hid (C1.out wr hb)
      by_cases hlt : k < f.length
      · have c5 := C5.out k wr hb
        rw [tailV_yes (th_of HG.out hlt)] at c5
        have K2 := hid (fun W hb => C2.out (k : Int) W hb)
        rw [lotV_yes (th_of HG.out hlt)] at K2
        have HLEN := hid (loopsK_len f k)
        by_cases hlk : loopOf f k = k
        · have HS := hid (show loopsK f (k + 1) = loopsK f k ++ [ints (way f k)] by rw [loopsK, if_pos hlk])
          rw [hlk] at K2
          rw [loopOf_self HG.out hlt hlk] at c5
          have K3 := hid (fun W hb => C3.out (k : Int) W hb)
          rw [wayL_yes (th_of HG.out hlt)] at K3
          generalize loopsK f k = M at *
          generalize ints (way f k) = Z at *
          clear C1 C2 C3 C5 hlk
          go_wp2_with fail
          refine K1.out.mono ?_; rintro e w' ⟨rfl, rfl⟩
          go_wp2_with fail
          refine c5.mono ?_; rintro e w1 ⟨rfl, hb1⟩
          have hb1' := hb.trans (hb1.mono hb.size)
          have k2 := hid (K2.out w1 hb1')
          clear K2
          go_wp2_with fail
          refine k2.out.mono ?_; rintro e w2 ⟨rfl, hb2⟩
          have hb2' := hb1'.trans (hb2.mono hb1'.size)
          have k3 := hid (K3.out w2 hb2')
          clear K3 k2
          go_wp2_with fail
          refine k3.out.mono ?_; rintro e w3 ⟨D, d, rfl, hz, hb3⟩
          have hb3' := hb2'.trans (hb3.mono hb2'.size)
          have ho3 := ((ho.below (hb1.mono (Nat.le_refl _))).below (hb2.mono (Nat.le_refl _))).below (hb3.mono (Nat.le_refl _))
          have hz3 := hz.mono hb2'.size
          have hsz := hb3'.size
          go_wp2_with (at_builtin; refine wpList_appR _ rfl _ _ rfl w.heap.size _ M rfl (ho3.alloc _) w3.heap.size D d Z (hz3.alloc _) rfl (cell_oneS _ _ _) (by have := HLEN.out; omega) (by simp <;> omega) ?_; intro A4 c4 w4 o4 b4)
          have b4' : Below w.heap.size w w4 := (hb3'.alloc hsz _).trans b4
          clear b4 ho ho3 hz hz3
          go_wp2_with fail
          go_roundw
          case rel => exact ⟨k + 1, by omega, by go_num, by rw [HS.out]; exact o4, b4'⟩
          case measure => simp [intOf]; omega
        · have HS := hid (show loopsK f (k + 1) = loopsK f k by rw [loopsK, if_neg hlk])
          have q : ((loopOf f k : Int) == (k : Int)) = false := by simp; omega
          by_cases ht : tail f k = 0
          · rw [ht] at c5
            generalize loopsK f k = M at *
            generalize loopOf f k = T at *
            clear C1 C2 C3 C5 hlk ht
            go_wp2_with fail
            refine K1.out.mono ?_; rintro e w' ⟨rfl, rfl⟩
            go_wp2_with fail
            refine c5.mono ?_; rintro e w1 ⟨rfl, hb1⟩
            have hb1' := hb.trans (hb1.mono hb.size)
            have k2 := hid (K2.out w1 hb1')
            clear K2
            go_wp2_with fail
            refine k2.out.mono ?_; rintro e w2 ⟨rfl, hb2⟩
            go_wp2_with fail
            go_roundw
            case rel => exact ⟨k + 1, by omega, by go_num, by rw [HS.out]; exact (ho.below (hb1.mono (Nat.le_refl _))).below (hb2.mono (Nat.le_refl _)), hb1'.trans (hb2.mono hb1'.size)⟩
            case measure => simp [intOf]; omega
          · have q2 : ((tail f k : Int) == 0) = false := by simp; omega
            generalize loopsK f k = M at *
            generalize loopOf f k = T at *
            generalize tail f k = U at *
            clear C1 C2 C3 C5 hlk ht K2
            go_wp2_with fail
            refine K1.out.mono ?_; rintro e w' ⟨rfl, rfl⟩
            go_wp2_with fail
            refine c5.mono ?_; rintro e w1 ⟨rfl, hb1⟩
            have hb1' := hb.trans (hb1.mono hb.size)
            go_wp2_with fail
            go_roundw
            case rel => exact ⟨k + 1, by omega, by go_num, by rw [HS.out]; exact ho.below (hb1.mono (Nat.le_refl _)), hb1'⟩
            case measure => simp [intOf]; omega
      · obtain rfl : k = f.length := by omega
        clear C1 C2 C3 C5
        rw [← HE.out] at ho
        obtain ⟨A4, c4, rfl⟩ := ho.form
        go_wp2_with fail
        go_ret
        exact retRR_own ho hb
  · have HE := hid (show loopsLL f = [] from if_neg hf)
    rw [show mapOkB f = false by simpa using hf] at C1
    have K1 := hid (C1.out _ b0)
    clear hf hR C1
    by_cases h0 : 0 < f.length
    · go_enter Try.func37, Try.ntmps37
      go_wp2_with fail
      refine wp_loop_rounds 1 ?_
      rw [rounds_succ]
      go_wp2_with fail
      refine K1.out.mono ?_; rintro e w' ⟨rfl, rfl⟩
      go_wp2_with fail
      go_ret
      rw [HE.out]
      exact retRR_own o0 b0
    · have q1 : decide ((0 : Int) < (f.length : Int)) = false := decide_eq_false (by omega)
      have q0 : decide (0 < f.length) = false := decide_eq_false (by omega)
      clear h0
      go_enter Try.func37, Try.ntmps37
      go_wp2_with fail
      refine wp_loop_rounds 1 ?_
      rw [rounds_succ]
      go_wp2_with fail
      go_ret
      rw [HE.out]
      exact retRR_own o0 b0

end Go.Proofs.Ytjipecfoiddkjaa
