/- Contracts of chapter 4: powers. -/
import Derived.Test.YtjipecfoiddkjaaS2
import Derived.Test.YtjipecfoiddkjaaR4
namespace Go.Proofs.Ytjipecfoiddkjaa
open Go.RowKit
set_option linter.unusedVariables false

set_option maxHeartbeats 1000000 in
theorem ipowerOf_in (A : Option Addr) (c : Nat) (f : List Int) (hf : Good f) (k : Nat) : ∀ (t : Int) (w : World), t ≤ k → 0 ≤ t → t ≤ 1000000 → RdA w A f →
    Calls Try.prog 44 #[.slice A f.length c, .int .i64 t] w (RetI w (pw f t.toNat)) := by
  have h1 := hf.1.1
  have h7 := hf.1.2
  induction k with
  | zero =>
    intro t w h2 h3 h4 hR
    obtain rfl : t = 0 := by omega
    have cs := iSameOf_c f.length w
    rw [← pw_zero hf] at cs
    have HP := hid (pw_len f 0)
    clear hR hf
    go_enter Try.func44, Try.ntmps44
    go_wp2_with fail
    refine cs.mono ?_
    rintro e w1 ⟨A1, c1, rfl, o1, b1, -⟩
    go_wp2_with fail
    go_ret
    exact ⟨A1, c1, rfl, o1, b1⟩
  | succ k ih =>
    intro t w h2 h3 h4 hR
    by_cases h0 : t = 0
    · exact ih t w (by omega) h3 h4 hR
    · have q0 : (t == 0) = false := by simpa using h0
      have ih1 := hid (ih (t / 2) w (by omega) (by omega) (by omega) hR)
      have e2 : (t / 2).toNat = t.toNat / 2 := by omega
      rw [e2] at ih1
      have HL := hid (fun m => pw_len f m)
      have HB := hid (fun a b => behind_pw hf a b)
      have HO := hid (pw_one hf)
      have HR := hid hR
      clear ih hf e2 hR
      by_cases hodd : t % 2 = 1
      · have q1 : (t % 2 == 1) = true := by simpa using hodd
        have HT := hid (show 1 + (t.toNat / 2 + t.toNat / 2) = t.toNat by omega)
        have KB := hid (show ∀ (A' : Option Addr) c' W, RdA W A' (pw f (t.toNat / 2)) → Calls Try.prog 61 #[.slice A' (pw f (t.toNat / 2)).length c', .slice A' (pw f (t.toNat / 2)).length c'] W (RetN W (pw f (t.toNat / 2 + t.toNat / 2))) from fun A' c' W hr => by
          have := iBehindOf_c A' A' c' c' (pw f (t.toNat / 2)) (pw f (t.toNat / 2)) W hr hr (by rw [HL.out]; omega) (by rw [HL.out]; omega)
          rwa [HB.out] at this)
        have KC := hid (show ∀ (A' : Option Addr) c' W, RdA W A' (pw f (t.toNat / 2 + t.toNat / 2)) → RdA W A f → Calls Try.prog 61 #[.slice A' (pw f (t.toNat / 2 + t.toNat / 2)).length c', .slice A f.length c] W (RetN W (pw f t.toNat)) from fun A' c' W hr hr2 => by
          have h := iBehindOf_c A' A c' c (pw f (t.toNat / 2 + t.toNat / 2)) f W hr hr2 (by rw [HL.out]; omega) (by omega)
          have e : behindL (pw f (t.toNat / 2 + t.toNat / 2)) f = pw f t.toNat := by
            conv => lhs; rw [← HO.out]
            rw [show pw (pw f 1) (t.toNat / 2 + t.toNat / 2) = pw f (t.toNat / 2 + t.toNat / 2) by rw [HO.out], HB.out, HT.out]
          rwa [e] at h)
        clear h0 hodd HB HT HL HO
        generalize pw f (t.toNat / 2 + t.toNat / 2) = L2 at *
        generalize pw f (t.toNat / 2) = L1 at *
        generalize pw f t.toNat = L3 at *
        go_enter Try.func44, Try.ntmps44
        go_wp2_with fail
        refine ih1.out.mono ?_
        rintro e w1 ⟨A1, c1, rfl, o1, b1⟩
        have k1 := hid (KB.out A1 c1 w1 o1.rd)
        clear KB ih1
        go_wp2_with fail
        refine k1.out.mono ?_
        rintro e w2 ⟨A2, c2, rfl, o2, b2, -⟩
        have B2 := b1.trans (b2.mono b1.size)
        have k2 := hid (KC.out A2 c2 w2 o2.rd (HR.out.below B2))
        clear KC k1 o1 HR
        go_wp2_with fail
        refine k2.out.mono ?_
        rintro e w3 ⟨A3, c3, rfl, o3, b3, -⟩
        have B3 := B2.trans (b3.mono B2.size)
        go_wp2_with fail
        go_ret
        exact ⟨A3, c3, rfl, o3.mono B2.size, B3⟩
      · have q1 : (t % 2 == 1) = false := by simpa using hodd
        have HT := hid (show t.toNat / 2 + t.toNat / 2 = t.toNat by omega)
        have KB := hid (show ∀ (A' : Option Addr) c' W, RdA W A' (pw f (t.toNat / 2)) → Calls Try.prog 61 #[.slice A' (pw f (t.toNat / 2)).length c', .slice A' (pw f (t.toNat / 2)).length c'] W (RetN W (pw f t.toNat)) from fun A' c' W hr => by
          have := iBehindOf_c A' A' c' c' (pw f (t.toNat / 2)) (pw f (t.toNat / 2)) W hr hr (by rw [HL.out]; omega) (by rw [HL.out]; omega)
          rwa [HB.out, HT.out] at this)
        clear h0 hodd HB HT HL HO HR
        generalize pw f (t.toNat / 2) = L1 at *
        generalize pw f t.toNat = L3 at *
        go_enter Try.func44, Try.ntmps44
        go_wp2_with fail
        refine ih1.out.mono ?_
        rintro e w1 ⟨A1, c1, rfl, o1, b1⟩
        have k1 := hid (KB.out A1 c1 w1 o1.rd)
        clear KB ih1
        go_wp2_with fail
        refine k1.out.mono ?_
        rintro e w2 ⟨A2, c2, rfl, o2, b2, -⟩
        have B2 := b1.trans (b2.mono b1.size)
        go_wp2_with fail
        go_ret
        exact ⟨A2, c2, rfl, o2.mono b1.size, B2⟩

theorem iPowerOf_c (A : Option Addr) (c : Nat) (f : List Int) (t : Int) (w : World) (hR : RdA w A f) (hn : f.length ≤ 1048577) :
    Calls Try.prog 23 #[.slice A f.length c, .int .i64 t] w (RetI w (powL f t)) := by
  have c1 := iMapOk_c A c f w hR hn
  by_cases hf : mapOkB f = true
  · rw [hf] at c1
    by_cases ht : 0 ≤ t ∧ t ≤ 1000000
    · have HE := hid (show powL f t = pw f t.toNat from if_pos ⟨hf, ht⟩)
      have c2 := hid (ipowerOf_in A c f (good_of hf) t.toNat t w (by omega) ht.1 ht.2 hR)
      obtain ⟨ht0, ht1⟩ := ht
      clear hf hR
      go_enter Try.func23, Try.ntmps23
      go_wp2_with fail
      refine c1.mono ?_; rintro e w' ⟨rfl, rfl⟩
      go_wp2_with fail
      refine c2.out.mono ?_; rintro e w2 ⟨A2, c2, rfl, o2, b2⟩
      rw [← HE.out] at *
      go_wp2_with fail
      go_ret
      exact ⟨A2, c2, rfl, o2, b2⟩
    · have HE := hid (powL_no (f := f) (n := t) (fun h => ht h.2))
      clear hf hR
      by_cases h0 : t < 0
      · clear ht
        go_enter Try.func23, Try.ntmps23
        go_wp2_with fail
        refine c1.mono ?_; rintro e w' ⟨rfl, rfl⟩
        go_wp2_with fail
        go_ret
        rw [HE.out]
        exact retI_own (Own.nil _ _) (Below.refl _ _)
      · have h1 : 1000000 < t := by omega
        clear ht
        go_enter Try.func23, Try.ntmps23
        go_wp2_with fail
        refine c1.mono ?_; rintro e w' ⟨rfl, rfl⟩
        go_wp2_with fail
        go_ret
        rw [HE.out]
        exact retI_own (Own.nil _ _) (Below.refl _ _)
  · have HE := hid (powL_no (f := f) (n := t) (fun h => hf h.1))
    rw [show mapOkB f = false by simpa using hf] at c1
    clear hf hR
    go_enter Try.func23, Try.ntmps23
    go_wp2_with fail
    refine c1.mono ?_; rintro e w' ⟨rfl, rfl⟩
    go_wp2_with fail
    go_ret
    rw [HE.out]
    exact retI_own (Own.nil _ _) (Below.refl _ _)

end Go.Proofs.Ytjipecfoiddkjaa
