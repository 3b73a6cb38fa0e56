/- Contracts of chapter 6: whether a turn has a root. -/
import Derived.Test.YtenmgiocbdabdaaS3
namespace Go.Proofs.Ytenmgiocbdabdaa
open Go.RowKit
set_option linter.unusedVariables false

theorem rootOk_yes {f : List Int} (h : turnedB f = true) : rootOkB f = evenB (kindsL f) := by rw [rootOkB, h, Bool.true_and]
theorem rootOk_no {f : List Int} (h : turnedB f = false) : rootOkB f = false := by rw [rootOkB, h, Bool.false_and]

set_option maxHeartbeats 400000 in
theorem iTurnRootOk_c (A : Option Addr) (c : Nat) (f : List Int) (w : World) (hR : RdA w A f) (hn : f.length ≤ 1048577) :
    Calls Try.prog 81 #[.slice A f.length c] w fun e w' => e = .returned (.bool (rootOkB f)) ∧ Below w.heap.size w w' := by
  have c1 := iTurnedOf_c A c f w hR hn
  by_cases ht : turnedB f = true
  · have HT := hid (rootOk_yes ht)
    have hf := (turnedB_iff.1 ht).1
    have h7 := hf.1.2
    have HK := hid (fun p => kinds_range hf p)
    have hkl := (kinds_sums hf).1
    rw [ht] at c1
    have C2 := hid (fun W (hb : Below w.heap.size w W) => iLoopKinds_c A c f W (hR.below hb) hn)
    clear ht hR hf
    generalize kindsL f = K at *
    have hk7 : K.length ≤ 7 := by omega
    clear hkl
    go_enter Try.func81, Try.ntmps81
    go_wp2_with fail
    refine c1.mono ?_; rintro e w2 ⟨A2, c2, rfl, -, b2, -⟩
    have k2 := hid (C2.out w2 b2)
    clear C2 c1
    go_wp2_with fail
    refine k2.out.mono ?_; rintro e w3 ⟨A3, c3, rfl, o3, b3⟩
    have b3' := b2.trans (b3.mono b2.size)
    have HR := hid o3.rd
    clear k2 b2 b3 o3
    go_wp2_with fail
    go_loop [18] (fun i => ∃ k : Nat, k ≤ K.length ∧ i = .int .i64 k ∧ Hid (∀ j, j < k → j % 2 = 1 → nth K j % 2 = 0)) (fun i => K.length - (intOf i).toNat)
    case atStart => exact ⟨0, Nat.zero_le _, rfl, hid (fun j hj => by omega)⟩
    case round =>
      obtain ⟨k, hk, rfl, hall⟩ := hrel
      by_cases hlt : k < K.length
      · obtain ⟨ad, rfl, hc⟩ := HR.out k hlt
        obtain ⟨hx0, hx7⟩ := HK.out k
        have HX := hid (show nth K k = nth K k from rfl)
        by_cases hodd : k % 2 = 1
        · have q1 : (((k : Int) + 1) % 2 == 0) = true := by simp; omega
          by_cases hev : nth K k % 2 = 0
          · have q2 : (nth K k % 2 == 0) = true := by simpa using hev
            have q3 : (nth K k % 2 != 0) = false := by simp [hev]
            have HN := hid (show ∀ j, j < k + 1 → j % 2 = 1 → nth K j % 2 = 0 from fun j hj h => by
              rcases Nat.lt_succ_iff_lt_or_eq.1 hj with h' | rfl
              · exact hall.out j h' h
              · exact hev)
            clear hev hall hodd
            generalize nth K k = X at *
            go_wp2_with fail
            go_round
            case rel => exact ⟨k + 1, by omega, by go_num, HN⟩
            case measure => simp [intOf]; omega
          · have q2 : (nth K k % 2 == 0) = false := by simpa using hev
            have q3 : (nth K k % 2 != 0) = true := by simp [hev]
            have HN := hid (evenB_no hlt hodd hev)
            clear hev hall hodd
            generalize nth K k = X at *
            go_wp2_with fail
            go_ret
            exact ⟨ret_bool (by rw [HT.out, HN.out]), b3'⟩
        · have q1 : (((k : Int) + 1) % 2 == 0) = false := by simp; omega
          have HN := hid (show ∀ j, j < k + 1 → j % 2 = 1 → nth K j % 2 = 0 from fun j hj h => by
              rcases Nat.lt_succ_iff_lt_or_eq.1 hj with h' | rfl
              · exact hall.out j h' h
              · exact absurd h hodd)
          clear hall hodd
          generalize nth K k = X at *
          go_wp2_with fail
          go_round
          case rel => exact ⟨k + 1, by omega, by go_num, HN⟩
          case measure => simp [intOf]; omega
      · obtain rfl : k = K.length := by omega
        have HN := hid (evenB_yes hall.out)
        clear hall
        go_wp2_with fail
        go_ret
        exact ⟨ret_bool (by rw [HT.out, HN.out]), b3'⟩
  · have ht' : turnedB f = false := by simpa using ht
    have HT := hid (rootOk_no ht')
    rw [ht'] at c1
    clear ht ht' hR
    go_enter Try.func81, Try.ntmps81
    go_wp2_with fail
    refine c1.mono ?_; rintro e w2 ⟨A2, c2, rfl, -, b2, -⟩
    clear c1
    go_wp2_with fail
    go_ret
    exact ⟨ret_bool HT.out.symm, b2⟩

set_option maxHeartbeats 400000 in
theorem sTurnRootOk_c (A : Option Addr) (c : Nat) (f : List Int) (w : World) (hR : RdA w A f) (hn : f.length ≤ 1048577) :
    Calls Try.prog 80 #[.slice A f.length c] w fun e w' => e = .returned (.bool (rootOkB f)) ∧ Below w.heap.size w w' := by
  have c1 := sTurnedOf_c A c f w hR hn
  have C2 := hid (fun W (hb : Below w.heap.size w W) => sLoopKinds_c A c f W (hR.below hb) hn)
  have HK := hid (show ∀ p, 0 ≤ nth (kindsL f) p ∧ nth (kindsL f) p ≤ 7 from fun p => by
    by_cases hf : mapOkB f = true
    · exact kinds_range (good_of hf) p
    · rw [show kindsL f = [] from if_neg hf]; simp [nth])
  have HT := hid (show rootOkB f = (turnedB f && evenB (kindsL f)) from rfl)
  have hk7 : (kindsL f).length ≤ 7 := by
    by_cases hf : mapOkB f = true
    · rw [(kinds_sums (good_of hf)).1]; exact (good_of hf).1.2
    · rw [show kindsL f = [] from if_neg hf]; simp
  clear hR
  generalize kindsL f = K at *
  generalize turnedB f = tb at *
  go_enter Try.func80, Try.ntmps80
  go_wp2_with fail
  refine c1.mono ?_; rintro e w2 ⟨A2, c2, rfl, -, b2⟩
  have k2 := hid (C2.out w2 b2)
  clear C2 c1
  go_wp2_with fail
  refine k2.out.mono ?_; rintro e w3 ⟨A3, c3, rfl, o3, b3⟩
  have b3' := b2.trans (b3.mono b2.size)
  have HR := hid o3.rd
  clear k2 b2 b3 o3
  go_wp2_with fail
  go_loop [6] (fun i => ∃ k : Nat, 2 * k + 1 ≤ K.length + 1 ∧ i = .int .i64 (2 * (k : Int) + 1) ∧ Hid (∀ j, j < 2 * k + 1 → j % 2 = 1 → nth K j % 2 = 0)) (fun i => K.length + 1 - (intOf i).toNat)
  case atStart => exact ⟨0, by omega, rfl, hid (fun j hj => by omega)⟩
  case round =>
    obtain ⟨k, hk, rfl, hall⟩ := hrel
    by_cases hlt : 2 * k + 1 < K.length
    · obtain ⟨ad, rfl, hc⟩ := HR.out (2 * k + 1) hlt
      obtain ⟨hx0, hx7⟩ := HK.out (2 * k + 1)
      have e1 : 2 * (k : Int) + 1 = ((2 * k + 1 : Nat) : Int) := by omega
      have HE1 := hid e1
      rw [e1]
      have hodd : (2 * k + 1) % 2 = 1 := by omega
      have hk2 : 2 * k + 1 ≤ 7 := by omega
      have HQ := hid (show (((2 * k + 1 : Nat) : Int) + 2) = 2 * ((k + 1 : Nat) : Int) + 1 by omega)
      by_cases hev : nth K (2 * k + 1) % 2 = 0
      · have q2 : (nth K (2 * k + 1) % 2 == 1) = false := by simp [hev]
        have HN := hid (show ∀ j, j < 2 * (k + 1) + 1 → j % 2 = 1 → nth K j % 2 = 0 from fun j hj h => by
          by_cases h' : j = 2 * k + 1
          · subst h'; exact hev
          · exact hall.out j (by omega) h)
        have HM := hid (show 2 * (k + 1) + 1 ≤ K.length + 1 by omega)
        have HM2 := hid (show K.length + 1 - (2 * (k + 1) + 1) < K.length + 1 - (2 * k + 1) by omega)
        clear hev hall hodd e1
        generalize nth K (2 * k + 1) = X at *
        generalize hP : 2 * k + 1 = P at *
        have KP := hid hP
        clear hP
        go_wp2_with fail
        go_round
        case rel => exact ⟨k + 1, HM.out, by rw [HQ.out], HN⟩
        case measure => simp [intOf]; have := KP.out; omega
      · have q2 : (nth K (2 * k + 1) % 2 == 1) = true := by simp; omega
        have HN := hid (evenB_no hlt hodd hev)
        clear hev hall hodd e1
        generalize nth K (2 * k + 1) = X at *
        generalize hP : 2 * k + 1 = P at *
        clear hP
        go_wp2_with fail
        go_ret
        exact ⟨ret_bool (by rw [HT.out, HN.out, Bool.and_false]), b3'⟩
    · have hP : ∀ j, j < K.length → j % 2 = 1 → nth K j % 2 = 0 := fun j hj h => hall.out j (by omega) h
      have HN := hid (evenB_yes hP)
      have e1 : 2 * (k : Int) + 1 = ((2 * k + 1 : Nat) : Int) := by omega
      rw [e1]
      clear hP hall e1
      generalize 2 * k + 1 = P at *
      go_wp2_with fail
      go_ret
      exact ⟨ret_bool (by rw [HT.out, HN.out, Bool.and_true]), b3'⟩

end Go.Proofs.Ytenmgiocbdabdaa
