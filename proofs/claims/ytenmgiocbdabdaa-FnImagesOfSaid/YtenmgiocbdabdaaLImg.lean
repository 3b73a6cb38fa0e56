/- The walk of the law FnImagesOf. -/
import Derived.Test.YtenmgiocbdabdaaT2
import Derived.Test.YtenmgiocbdabdaaI4
import Derived.Test.YtenmgiocbdabdaaD2
import Derived.Test.YtenmgiocbdabdaaM4
import Derived.Test.YtenmgiocbdabdaaM5
namespace Go.Proofs.Ytenmgiocbdabdaa
open Go.RowKit
set_option linter.unusedVariables false

def facI : Nat → Int
  | 0 => 1
  | k + 1 => facI k * ((k : Int) + 1)
set_option maxRecDepth 100000 in
theorem img_cnt : ∀ T : Nat, T ≤ 4 → 1 ≤ T → ∀ O : Nat, O ≤ 4 → 1 ≤ O → O ≤ T → (cntR (fun r => (imageL r).length == O) (allK T T) (allK T T).length : Int) = imagesV T O := by decide +kernel
theorem img_pos : ∀ T : Nat, T ≤ 7 → 1 ≤ T → ∀ O : Nat, O ≤ 7 → 1 ≤ O → O ≤ T → 0 < imagesV T O := by decide +kernel
theorem img_fac : ∀ T : Nat, T ≤ 7 → 1 ≤ T → imagesV T T = facI T := by decide +kernel
theorem fac_bd : ∀ k : Nat, k ≤ 7 → 0 ≤ facI k ∧ facI k ≤ 5040 := by decide +kernel
theorem imagesV_out {t o : Int} (h : ¬ ((1 ≤ t ∧ t ≤ 7) ∧ (1 ≤ o ∧ o ≤ t))) : imagesV t o = -1 := by unfold imagesV; rw [if_neg h]

set_option maxHeartbeats 4000000 in
theorem FnImagesOf_w (a : Option Addr) (len cap : Nat) (zs : List Int) (w : World) (h : RowIn .u8 w a len cap zs) :
    Calls Try.prog 10 #[.slice a len cap] w fun e w' => e = .returned (.bool true) ∧ Below w.heap.size w w' := by
  have hcap := h.cap
  unfold maxLen at hcap
  by_cases hbig : 1048576 < len
  · clear h
    go_enter Try.func10, Try.ntmps10
    go_wp2_with fail
    go_ret
    exact ⟨rfl, Below.refl _ _⟩
  · have hd := DrawImagesOf_c a len cap zs w h (by omega)
    clear h
    go_enter Try.func10, Try.ntmps10
    go_wp2_with fail
    refine hd.mono ?_
    rintro e w1 ⟨t, o, rfl, ht0, ht8, ho0, ho8, B1⟩
    clear hd
    by_cases hin : (1 ≤ t ∧ t ≤ 7) ∧ (1 ≤ o ∧ o ≤ t)
    · obtain ⟨T, rfl⟩ := Int.eq_ofNat_of_zero_le ht0
      obtain ⟨O, rfl⟩ := Int.eq_ofNat_of_zero_le ho0
      have hT1 : 1 ≤ T := by omega
      have hT7 : T ≤ 7 := by omega
      have hO1 : 1 ≤ O := by omega
      have hOT : O ≤ T := by omega
      have hps := img_pos T hT7 hT1 O (by omega) hO1 hOT
      have CI := hid (fun W => iImagesOf_c T O W)
      have CS := hid (fun W => sImagesOf_c T O W)
      have CT := hid (fun W => by have := iImagesOf_c T T W; rw [img_fac T hT7 hT1] at this; exact this)
      have HV := hid (show ∀ h : T ≤ 4, (cntR (fun r => (imageL r).length == O) (allK T T) (allK T T).length : Int) = imagesV T O from fun h => img_cnt T h hT1 O (by omega) hO1 hOT)
      have HF := hid (show ∀ k, k < T → facI (k + 1) = facI k * ((k : Int) + 1) ∧ 0 ≤ facI k ∧ facI k ≤ 5040 ∧ 0 ≤ facI k * ((k : Int) + 1) ∧ facI k * ((k : Int) + 1) ≤ 5040 from fun k hk => ⟨rfl, (fac_bd k (by omega)).1, (fac_bd k (by omega)).2, (fac_bd (k + 1) (by omega)).1, (fac_bd (k + 1) (by omega)).2⟩)
      have H1 := hid (show facI 1 = 1 from rfl)
      clear ht0 ht8 hin ho0 ho8
      generalize imagesV (T : Int) (O : Int) = V at *
      go_wp2_with fail
      refine (CI.out _).mono ?_
      rintro e w21 ⟨rfl, b⟩
      have B21 := stepB B1 B1.size b
      clear b
      go_wp2_with fail
      refine (CS.out _).mono ?_
      rintro e w21' ⟨rfl, rfl⟩
      go_wp2_with fail
      go_loop [6, 7] (fun p i => ∃ k : Nat, 1 ≤ k ∧ k ≤ T ∧ i = .int .i64 ((k : Int) + 1) ∧ p = .int .i64 (facI k)) (fun _ i => T + 1 - (intOf i).toNat)
      case atStart => exact ⟨1, Nat.le_refl _, hT1, rfl, by rw [H1.out]⟩
      case round =>
        obtain ⟨k, hk1, hk, rfl, rfl⟩ := hrel
        by_cases hlt : k < T
        · obtain ⟨f1, f2, f3, f4, f5⟩ := HF.out k hlt
          have HE := hid f1
          clear f1
          generalize facI k = P at *
          go_wp2_with fail
          go_round
          case rel => exact ⟨k + 1, by omega, by omega, by go_num, by rw [HE.out]⟩
          case measure => simp [intOf]; omega
        · obtain rfl : k = T := by omega
          have q0 : decide ((k : Int) + 1 ≤ (k : Int)) = false := decide_eq_false (by omega)
          generalize facI k = P at *
          go_wp2_with fail
          refine (CT.out _).mono ?_
          rintro e w22 ⟨rfl, b⟩
          have B22 := stepB B21 B21.size b
          clear b
          clear q0
          by_cases h4 : 4 < k
          · go_wp2_with fail
            all_goals go_ret
            all_goals exact ⟨ret_bool (by first | rfl | (simp; omega)), B22⟩
          · have h4 : k ≤ 4 := by omega
            go_wp2_with fail
            refine (allMaps_c k _ hT1 h4).mono ?_
            rintro e w23 ⟨D, d, rfl, orr, b⟩
            have B23 := stepB B22 B22.size b
            clear b
            have HO := hid orr
            have HG := hid (show ∀ i, i < (allK k k).length → Good (gl (allK k k) i) ∧ (gl (allK k k) i).length = k from fun i hi => allK_good hT1 h4 (gl_mem hi))
            have HVV := hid (HV.out h4)
            have hrl := allK_bound h4 h4
            clear orr HV
            generalize allK k k = rows at *
            go_wp2_with fail
            go_loopw [8, 10] (fun m i wr => ∃ j : Nat, j ≤ rows.length ∧ i = .int .i64 j ∧ m = .int .i64 (cntR (fun r => (imageL r).length == O) rows j : Nat) ∧ Below w23.heap.size w23 wr) (fun _ i _ => rows.length - (intOf i).toNat)
            case atStart => exact ⟨0, Nat.zero_le _, rfl, rfl, Below.refl _ _⟩
            case round =>
              obtain ⟨j, hj, rfl, rfl, hb⟩ := hrel
              have hcl := cntR_le (fun r => (imageL r).length == O) rows j
              by_cases hlj : j < rows.length
              · obtain ⟨hgood, hlen⟩ := HG.out j hlj
                obtain ⟨g, E, e0, rfl, hg, hc, hoE⟩ := (HO.out.below hb).at_ hlj
                have K := hid (iImageOf_c _ e0 (gl rows j) wr hoE.rd (by omega))
                clear hlen hgood hoE
                by_cases hp : (imageL (gl rows j)).length = O
                · have HM := hid (cntR_yes (p := (fun r => (imageL r).length == O)) (rows := rows) (i := j) (by simpa using hp))
                  generalize cntR (fun r => (imageL r).length == O) rows j = M at *
                  have HP := hid hp
                  clear hp
                  go_wp2_with fail
                  refine K.out.mono ?_
                  rintro e w40 ⟨D2, d2, rfl, -, b⟩
                  rw [HP.out]
                  go_wp2_with fail
                  go_roundw
                  case rel => exact ⟨j + 1, by omega, by go_num, by rw [HM.out]; go_num, stepB hb hb.size b⟩
                  case measure => simp [intOf]; omega
                · have HM := hid (cntR_no (p := (fun r => (imageL r).length == O)) (rows := rows) (i := j) (by simpa using hp))
                  generalize cntR (fun r => (imageL r).length == O) rows j = M at *
                  have q1 : (((imageL (gl rows j)).length : Int) == (O : Int)) = false := by
                    have h : ((imageL (gl rows j)).length : Int) ≠ (O : Int) := by omega
                    simpa using h
                  clear hp
                  go_wp2_with fail
                  refine K.out.mono ?_
                  rintro e w40 ⟨D2, d2, rfl, -, b⟩
                  go_wp2_with fail
                  go_roundw
                  case rel => exact ⟨j + 1, by omega, by go_num, by rw [HM.out], stepB hb hb.size b⟩
                  case measure => simp [intOf]; omega
              · obtain rfl : j = rows.length := by omega
                rw [HVV.out]
                have BB := B23.trans (hb.mono B23.size)
                go_wp2_with fail
                all_goals go_ret
                all_goals exact ⟨ret_bool (by first | rfl | (simp; omega)), BB⟩
    · have CI := hid (fun W => iImagesOf_c t o W)
      have CS := hid (fun W => sImagesOf_c t o W)
      rw [imagesV_out hin] at CI CS
      clear hin
      go_wp2_with fail
      refine (CI.out _).mono ?_
      rintro e w21 ⟨rfl, b⟩
      have B21 := stepB B1 B1.size b
      clear b
      go_wp2_with fail
      refine (CS.out _).mono ?_
      rintro e w21' ⟨rfl, rfl⟩
      go_wp2_with fail
      refine (alive_c _).mono ?_
      rintro e w22 ⟨rfl, b⟩
      have B22 := stepB B21 B21.size b
      clear b
      go_wp2_with fail
      go_ret
      exact ⟨rfl, B22⟩

end Go.Proofs.Ytenmgiocbdabdaa
