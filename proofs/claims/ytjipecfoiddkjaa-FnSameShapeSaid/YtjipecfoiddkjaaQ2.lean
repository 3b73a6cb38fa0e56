/- Contracts: BehindOf of the reference; WithOk. -/
import Derived.Test.YtjipecfoiddkjaaQ1
namespace Go.Proofs.Ytjipecfoiddkjaa
open Go.RowKit
set_option linter.unusedVariables false

theorem retI_mk {w wr : World} {n c : Nat} {A : Option Addr} {F : Nat → Nat} {L : List Int} (h : L = mk n F) (ho : Own w.heap.size wr (.slice A n c) (mk n F)) (hb : Below w.heap.size w wr) : RetI w L (.returned (.slice A n c)) wr := by
  subst h
  exact ⟨A, c, by rw [mk_len], by rw [mk_len]; exact ho, hb⟩
theorem retI_own {w wr : World} {v : Value} {L : List Int} (ho : Own w.heap.size wr v L) (hb : Below w.heap.size w wr) : RetI w L (.returned v) wr := by
  obtain ⟨A, c, rfl, _⟩ := ho.form
  exact ⟨A, c, rfl, ho, hb⟩
theorem own_empty (w : World) : Own w.heap.size (w.alloc (.cells #[] 3)) (.slice (some ⟨w.heap.size, 0, none⟩) 0 0) [] := Own.new_ w [] #[] rfl (by decide)

set_option maxHeartbeats 800000 in
theorem sBehindOf_c (A B : Option Addr) (c d : Nat) (f g : List Int) (w : World) (hR : RdA w A f) (hS : RdA w B g) (hn : f.length ≤ 1048577) (hm : g.length ≤ 1048577) :
    Calls Try.prog 29 #[.slice A f.length c, .slice B g.length d] w (RetI w (behindL f g)) := by
  have o0 := own_empty w
  have b0 : Below w.heap.size w (w.alloc (.cells #[] 3)) := (Below.refl _ _).alloc (Nat.le_refl _) _
  have c1 := fun W (hb : Below w.heap.size w W) => sMapOk_c A c f W (hR.below hb) hn
  have c2 := fun W (hb : Below w.heap.size w W) => sMapOk_c B d g W (hS.below hb) hm
  by_cases hall : mapOkB f = true ∧ mapOkB g = true ∧ f.length = g.length
  · obtain ⟨hf, hg, hl⟩ := hall
    rw [hf] at c1
    rw [hg] at c2
    have gf := good_of hf
    have gg := good_of hg
    have HE := hid (behindL_good gf gg hl)
    have HG := hid gg
    have HF := hid gf
    have h1 := gf.1.1
    have h7 := gf.1.2
    have C1 := hid c1
    have C2 := hid c2
    have e1 : g.length = f.length := hl.symm
    have HL := hid hl
    rw [e1] at C2 hm ⊢
    clear hf hg gf gg hl c1 c2 e1
    go_enter Try.func29, Try.ntmps29
    go_wp2_with fail
    go_loopw [5, 6] (fun v i wr => ∃ k : Nat, k ≤ f.length ∧ i = .int .i64 k ∧ Own w.heap.size wr v (mk k (fun k => ap g (ap f k))) ∧ Below w.heap.size w wr) (fun _ i _ => f.length - (intOf i).toNat)
    case atStart => exact ⟨0, Nat.zero_le _, rfl, o0, b0⟩
    case round =>
      clear o0 b0
      obtain ⟨k, hk, rfl, ho, hb⟩ := hrel
      by_cases hlt : k < f.length
      · obtain ⟨ad, rfl, hc⟩ := (hR.below hb) k hlt
        have hlt2 := HF.out.ap_lt hlt
        rw [HF.out.nth_ap hlt] at hc
        obtain ⟨bd, rfl, hc3⟩ := (hS.below hb) (ap f k) (by have := HL.out; omega)
        rw [HG.out.nth_ap (by have := HL.out; omega)] at hc3
        have HM := hid (mk_succ k (fun k => ap g (ap f k)))
        have hll := mk_len k (fun k => ap g (ap f k))
        have HLL := hid hll
        have hsz := hb.size
        have K1 := hid (C1.out wr hb)
        have K2 := hid (C2.out wr hb)
        clear hll hR hS C1 C2
        generalize ap g (ap f k) = Y at *
        generalize ap f k = X at *
        generalize mk k (fun k => ap g (ap f k)) = M at *
        go_wp2_with fail
        refine K1.out.mono ?_; rintro e w' ⟨rfl, rfl⟩
        go_wp2_with fail
        refine K2.out.mono ?_; rintro e w' ⟨rfl, rfl⟩
        go_wp2_with (at_builtin; refine wpList_app1 _ rfl _ _ rfl w.heap.size _ M rfl (ho.alloc _) wr.heap.size (Y : Int) rfl (cell_one1 _ _ _) (by have := HLL.out; omega) (by simp; omega) ?_; intro A3 c3 w3 o3 b3)
        have b3' : Below w.heap.size w w3 := (hb.alloc hsz _).trans b3
        clear b3 hb ho
        go_wp2_with fail
        go_roundw
        case rel => exact ⟨k + 1, by omega, by go_num, by rw [HM.out]; exact o3, b3'⟩
        case measure => simp [intOf]; omega
      · obtain rfl : k = f.length := by omega
        obtain ⟨A4, c4, rfl, _⟩ := ho.form
        rw [mk_len] at *
        clear hR hS C1 C2
        go_wp2_with fail
        go_ret
        exact retI_mk HE.out ho hb
  · have HE := hid (behindL_no hall)
    have K1 := hid (c1 _ b0)
    have K2 := hid (c2 _ b0)
    clear c1 c2
    by_cases h0 : 0 < f.length
    · by_cases hl : f.length = g.length
      · have e1 : g.length = f.length := hl.symm
        rw [e1] at K2 hm ⊢
        clear hR hS
        by_cases hf : mapOkB f = true
        · have hg : mapOkB g = false := by
            rcases hg : mapOkB g with _ | _
            · rfl
            · exact absurd ⟨hf, hg, hl⟩ hall
          rw [hf] at K1
          rw [hg] at K2
          clear hf hg hl hall e1
          go_enter Try.func29, Try.ntmps29
          go_wp2_with fail
          refine wp_loop_rounds 1 ?_
          rw [rounds_succ]
          go_wp2_with fail
          refine K1.out.mono ?_; rintro e w' ⟨rfl, rfl⟩
          go_wp2_with fail
          refine K2.out.mono ?_; rintro e w' ⟨rfl, rfl⟩
          go_wp2_with fail
          go_ret
          rw [HE.out]
          exact retI_own o0 b0
        · rw [show mapOkB f = false by simpa using hf] at K1
          clear hf hl hall e1
          go_enter Try.func29, Try.ntmps29
          go_wp2_with fail
          refine wp_loop_rounds 1 ?_
          rw [rounds_succ]
          go_wp2_with fail
          refine K1.out.mono ?_; rintro e w' ⟨rfl, rfl⟩
          go_wp2_with fail
          go_ret
          rw [HE.out]
          exact retI_own o0 b0
      · have q1 : ((f.length : Int) == (g.length : Int)) = false := by simp; omega
        clear hl hall hR hS
        go_enter Try.func29, Try.ntmps29
        go_wp2_with fail
        refine wp_loop_rounds 1 ?_
        rw [rounds_succ]
        go_wp2_with fail
        go_ret
        rw [HE.out]
        exact retI_own o0 b0
    · have q1 : decide ((0 : Int) < (f.length : Int)) = false := decide_eq_false (by omega)
      have q0 : decide (0 < f.length) = false := decide_eq_false (by omega)
      clear hall hR hS h0
      go_enter Try.func29, Try.ntmps29
      go_wp2_with fail
      refine wp_loop_rounds 1 ?_
      rw [rounds_succ]
      go_wp2_with fail
      go_ret
      rw [HE.out]
      exact retI_own o0 b0

/-! ### WithOk -/
def withB (f g : List Int) : Bool := decide (behindL f g ≠ [] ∧ behindL f g = behindL g f)
theorem behindL_ne {f g : List Int} (h : behindL f g ≠ []) : mapOkB f = true ∧ mapOkB g = true ∧ f.length = g.length := by
  rcases Classical.em (mapOkB f = true ∧ mapOkB g = true ∧ f.length = g.length) with h1 | h1
  · exact h1
  · exact absurd (behindL_no h1) h
theorem behindL_len2 {f g : List Int} (h : behindL f g ≠ []) : (behindL f g).length = f.length ∧ (behindL g f).length = f.length ∧ behindL g f ≠ [] := by
  obtain ⟨h1, h2, h3⟩ := behindL_ne h
  have a := (good_behind (good_of h1) (good_of h2) h3).2
  have b := good_behind (good_of h2) (good_of h1) h3.symm
  have := (good_of h1).1
  refine ⟨a, by rw [b.2, h3], fun e => ?_⟩
  have := b.2
  rw [e] at this
  simp at this
  omega




end Go.Proofs.Ytjipecfoiddkjaa
