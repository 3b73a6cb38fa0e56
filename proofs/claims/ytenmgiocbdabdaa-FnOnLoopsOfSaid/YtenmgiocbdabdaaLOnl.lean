/- The walk of the law FnOnLoopsOf. -/
import Derived.Test.YtenmgiocbdabdaaT2
import Derived.Test.YtenmgiocbdabdaaD2
import Derived.Test.YtenmgiocbdabdaaM4
import Derived.Test.YtenmgiocbdabdaaM5
namespace Go.Proofs.Ytenmgiocbdabdaa
open Go.RowKit
set_option linter.unusedVariables false

set_option maxHeartbeats 4000000 in
theorem FnOnLoopsOf_w (a : Option Addr) (len cap : Nat) (zs : List Int) (w : World) (h : RowIn .u8 w a len cap zs) :
    Calls Try.prog 8 #[.slice a len cap] w fun e w' => e = .returned (.bool true) ∧ Below w.heap.size w w' := by
  have hcap := h.cap
  unfold maxLen at hcap
  by_cases hbig : 1048576 < len
  · clear h
    go_enter Try.func8, Try.ntmps8
    go_wp2_with fail
    go_ret
    exact ⟨rfl, Below.refl _ _⟩
  · have hd := DrawOnLoopsOf_c a len cap zs w h (by omega)
    clear h
    go_enter Try.func8, Try.ntmps8
    go_wp2_with fail
    refine hd.mono ?_
    rintro e w1 ⟨t, o, rfl, ht0, ht8, ho0, ho8, B1⟩
    clear hd
    by_cases hin : (1 ≤ t ∧ t ≤ 7) ∧ (1 ≤ o ∧ o ≤ t)
    · obtain ⟨T, rfl⟩ := Int.eq_ofNat_of_zero_le ht0
      obtain ⟨O, rfl⟩ := Int.eq_ofNat_of_zero_le ho0
      have hT1 : 1 ≤ T := by omega
      have hT7 : T ≤ 7 := by omega
      have hO1 : 1 ≤ O := by omega
      have hOT : O ≤ T := by omega
      have hps := onl_pos T hT7 hT1 O (by omega) hO1 hOT
      have CI := hid (fun W => iOnLoopsOf_c T O W)
      have CS := hid (fun W => sOnLoopsOf_c T O W)
      have HV := hid (show ∀ h : T ≤ 4, (cntR (fun r => onC r T == O) (allK T T) (allK T T).length : Int) = onLoopsV T O from fun h => onl_cnt T h hT1 O (by omega) hO1 hOT)
      clear ht0 ht8 hin ho0 ho8
      generalize onLoopsV (T : Int) (O : Int) = V at *
      go_wp2_with fail
      refine (CI.out _).mono ?_
      rintro e w21 ⟨rfl, b⟩
      have B21 := stepB B1 B1.size b
      clear b
      go_wp2_with fail
      refine (CS.out _).mono ?_
      rintro e w21' ⟨rfl, rfl⟩
      by_cases h4 : 4 < T
      · go_wp2_with fail
        all_goals go_ret
        all_goals exact ⟨ret_bool (by first | rfl | (simp; omega)), B21⟩
      · have h4 : T ≤ 4 := by omega
        go_wp2_with fail
        refine (allMaps_c T _ hT1 h4).mono ?_
        rintro e w22 ⟨D, d, rfl, orr, b⟩
        have B22 := stepB B21 B21.size b
        clear b
        have HO := hid orr
        have HG := hid (show ∀ i, i < (allK T T).length → Good (gl (allK T T) i) ∧ (gl (allK T T) i).length = T from fun i hi => allK_good hT1 h4 (gl_mem hi))
        have HVV := hid (HV.out h4)
        have hrl := allK_bound h4 h4
        clear orr HV
        generalize allK T T = rows at *
        go_wp2_with fail
        go_loopw [6, 8] (fun m i wr => ∃ k : Nat, k ≤ rows.length ∧ i = .int .i64 k ∧ m = .int .i64 (cntR (fun r => onC r T == O) rows k : Nat) ∧ Below w22.heap.size w22 wr) (fun _ i _ => rows.length - (intOf i).toNat)
        case atStart => exact ⟨0, Nat.zero_le _, rfl, rfl, Below.refl _ _⟩
        case round =>
          obtain ⟨k, hk, rfl, rfl, hb⟩ := hrel
          have hcl := cntR_le (fun r => onC r T == O) rows k
          by_cases hlt : k < rows.length
          · obtain ⟨hgood, hlen⟩ := HG.out k hlt
            have HLN := hid hlen
            have HGG := hid hgood
            have HY := hid (fun h => cntR_yes (p := (fun r => onC r T == O)) (rows := rows) (i := k) h)
            have HN := hid (fun h => cntR_no (p := (fun r => onC r T == O)) (rows := rows) (i := k) h)
            clear hlen hgood
            generalize cntR (fun r => onC r T == O) rows k = M at *
            go_wp2_with fail
            go_loopw [9, 10] (fun s j wr' => ∃ j' : Nat, j' ≤ T ∧ j = .int .i64 j' ∧ s = .int .i64 (onC (gl rows k) j' : Nat) ∧ Below w22.heap.size w22 wr') (fun _ j _ => T - (intOf j).toNat)
            case atStart => exact ⟨0, Nat.zero_le _, rfl, rfl, hb⟩
            case round =>
              clear hb
              obtain ⟨j, hj, rfl, rfl, hb⟩ := hrel
              have hoc := onC_le (gl rows k) j
              by_cases hjt : j < T
              · obtain ⟨g, E, e0, rfl, hg, hc, hoE⟩ := (HO.out.below hb).at_ hlt
                have K := iOnLoop_c _ e0 (gl rows k) (j : Int) wr hoE.rd (by have := HLN.out; omega)
                rw [tailV_yes (th_of HGG.out (by rw [HLN.out]; exact hjt))] at K
                by_cases ht : tail (gl rows k) j = 0
                · have HN1 := hid (onC_yes ht)
                  rw [ht] at K
                  clear ht hoE
                  generalize onC (gl rows k) j = S at *
                  go_wp2_with fail
                  refine K.mono ?_
                  rintro e w40 ⟨rfl, b⟩
                  go_wp2_with fail
                  go_roundw
                  case rel => exact ⟨j + 1, by omega, by go_num, by rw [HN1.out]; go_num, stepB hb hb.size b⟩
                  case measure => simp [intOf]; omega
                · have HN1 := hid (onC_no ht)
                  have q2 : ((tail (gl rows k) j : Int) == 0) = false := by simp; omega
                  clear ht hoE
                  generalize onC (gl rows k) j = S at *
                  generalize tail (gl rows k) j = U at *
                  go_wp2_with fail
                  refine K.mono ?_
                  rintro e w40 ⟨rfl, b⟩
                  go_wp2_with fail
                  go_roundw
                  case rel => exact ⟨j + 1, by omega, by go_num, by rw [HN1.out], stepB hb hb.size b⟩
                  case measure => simp [intOf]; omega
              · obtain rfl : j = T := by omega
                by_cases hp : onC (gl rows k) j = O
                · have HM := hid (HY.out (by simpa using hp))
                  have q1 : ((onC (gl rows k) j : Int) == (O : Int)) = true := by rw [hp]; simp
                  clear HY HN hp
                  generalize onC (gl rows k) j = S at *
                  go_wp2_with fail
                  go_roundw
                  case rel => exact ⟨k + 1, by omega, by go_num, by rw [HM.out]; go_num, hb⟩
                  case measure => simp [intOf]; omega
                · have HM := hid (HN.out (by simpa using hp))
                  have q1 : ((onC (gl rows k) j : Int) == (O : Int)) = false := by simp; omega
                  clear HY HN hp
                  generalize onC (gl rows k) j = S at *
                  go_wp2_with fail
                  go_roundw
                  case rel => exact ⟨k + 1, by omega, by go_num, by rw [HM.out], hb⟩
                  case measure => simp [intOf]; omega
          · obtain rfl : k = rows.length := by omega
            rw [HVV.out]
            have BB := B22.trans (hb.mono B22.size)
            go_wp2_with fail
            all_goals go_ret
            all_goals exact ⟨ret_bool (by first | rfl | (simp; omega)), BB⟩
    · have CI := hid (fun W => iOnLoopsOf_c t o W)
      have CS := hid (fun W => sOnLoopsOf_c t o W)
      rw [onLoopsV_out2 hin] at CI CS
      clear hin
      go_wp2_with fail
      refine (CI.out _).mono ?_
      rintro e w21 ⟨rfl, b⟩
      have B21 := stepB B1 B1.size b
      clear b
      go_wp2_with fail
      refine (CS.out _).mono ?_
      rintro e w21' ⟨rfl, rfl⟩
      go_wp2_with fail
      refine (alive_c _).mono ?_
      rintro e w22 ⟨rfl, b⟩
      have B22 := stepB B21 B21.size b
      clear b
      go_wp2_with fail
      go_ret
      exact ⟨rfl, B22⟩

end Go.Proofs.Ytenmgiocbdabdaa
