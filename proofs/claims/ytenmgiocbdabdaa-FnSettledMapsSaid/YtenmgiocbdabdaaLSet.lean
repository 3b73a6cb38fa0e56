/- The walk of the law FnSettledMaps. -/
import Derived.Test.YtenmgiocbdabdaaT2
import Derived.Test.YtenmgiocbdabdaaD2
import Derived.Test.YtenmgiocbdabdaaM4
import Derived.Test.YtenmgiocbdabdaaM5
namespace Go.Proofs.Ytenmgiocbdabdaa
open Go.RowKit
set_option linter.unusedVariables false

set_option maxHeartbeats 2000000 in
theorem FnSettledMaps_w (a : Option Addr) (len cap : Nat) (zs : List Int) (w : World) (h : RowIn .u8 w a len cap zs) :
    Calls Try.prog 9 #[.slice a len cap] w fun e w' => e = .returned (.bool true) ∧ Below w.heap.size w w' := by
  have hcap := h.cap
  unfold maxLen at hcap
  by_cases hbig : 1048576 < len
  · clear h
    go_enter Try.func9, Try.ntmps9
    go_wp2_with fail
    go_ret
    exact ⟨rfl, Below.refl _ _⟩
  · have hd := DrawSettledMaps_c a len cap zs w h (by omega)
    clear h
    go_enter Try.func9, Try.ntmps9
    go_wp2_with fail
    refine hd.mono ?_
    rintro e w1 ⟨t, rfl, ht0, ht8, B1⟩
    clear hd
    by_cases hin : 1 ≤ t ∧ t ≤ 7
    · obtain ⟨T, rfl⟩ := Int.eq_ofNat_of_zero_le ht0
      have hT1 : 1 ≤ T := by omega
      have hT7 : T ≤ 7 := by omega
      have hps := set_pos T hT7 hT1
      have CI := hid (fun W => iSettledMaps_c T W)
      have CS := hid (fun W => sSettledMaps_c T W)
      have HV := hid (show ∀ h : T ≤ 4, (cntR idemB (allK T T) (allK T T).length : Int) = settledV T from fun h => set_cnt T h hT1)
      clear ht0 ht8 hin
      obtain ⟨hV, hps2⟩ := hps
      have C3 := hid (fun W => iSettledMaps_c ((T : Int) - 1) W)
      generalize settledV ((T : Int) - 1) = V2 at *
      generalize settledV (T : Int) = V at *
      go_wp2_with fail
      refine (CI.out _).mono ?_
      rintro e w21 ⟨rfl, b⟩
      have B21 := stepB B1 B1.size b
      clear b
      go_wp2_with fail
      refine (CS.out _).mono ?_
      rintro e w21' ⟨rfl, rfl⟩
      by_cases h4 : 4 < T
      · have hlt4 := hps2 h4
        go_wp2_with fail
        refine (C3.out _).mono ?_
        rintro e w22 ⟨rfl, b⟩
        have B22 := stepB B21 B21.size b
        clear b
        go_wp2_with fail
        all_goals go_ret
        all_goals exact ⟨ret_bool (by first | rfl | (simp; omega)), B22⟩
      · have h4 : T ≤ 4 := by omega
        go_wp2_with fail
        refine (allMaps_c T _ hT1 h4).mono ?_
        rintro e w22 ⟨D, d, rfl, orr, b⟩
        have B22 := stepB B21 B21.size b
        clear b
        have HO := hid orr
        have HG := hid (show ∀ i, i < (allK T T).length → Good (gl (allK T T) i) ∧ (gl (allK T T) i).length = T from fun i hi => allK_good hT1 h4 (gl_mem hi))
        have HVV := hid (HV.out h4)
        have hrl := allK_bound h4 h4
        clear orr HV
        generalize allK T T = rows at *
        go_wp2_with fail
        go_loopw [5, 7] (fun m i wr => ∃ k : Nat, k ≤ rows.length ∧ i = .int .i64 k ∧ m = .int .i64 (cntR idemB rows k : Nat) ∧ Below w22.heap.size w22 wr) (fun _ i _ => rows.length - (intOf i).toNat)
        case atStart => exact ⟨0, Nat.zero_le _, rfl, rfl, Below.refl _ _⟩
        case round =>
          obtain ⟨k, hk, rfl, rfl, hb⟩ := hrel
          have hcl := cntR_le idemB rows k
          by_cases hlt : k < rows.length
          · obtain ⟨g, E, e0, rfl, hg, hc, hoE⟩ := (HO.out.below hb).at_ hlt
            obtain ⟨hgood, hlen⟩ := HG.out k hlt
            have K := iIdempotentOk_c _ e0 (gl rows k) wr hoE.rd (by omega)
            have HLN := hid hlen
            have HC := hid hc
            by_cases hp : idemB (gl rows k) = true
            · have HN := hid (cntR_yes (p := idemB) hp)
              have HP := hid hp
              clear hp hoE hlen hgood
              generalize cntR idemB rows k = M at *
              rw [HP.out] at K
              go_wp2_with fail
              refine K.mono ?_
              rintro e w40 ⟨rfl, b⟩
              go_wp2_with fail
              go_roundw
              case rel => exact ⟨k + 1, by omega, by go_num, by rw [HN.out]; go_num, stepB hb hb.size b⟩
              case measure => simp [intOf]; omega
            · have hp : idemB (gl rows k) = false := by simpa using hp
              have HN := hid (cntR_no (p := idemB) hp)
              have HP := hid hp
              clear hp hoE hlen hgood
              generalize cntR idemB rows k = M at *
              rw [HP.out] at K
              go_wp2_with fail
              refine K.mono ?_
              rintro e w40 ⟨rfl, b⟩
              go_wp2_with fail
              go_roundw
              case rel => exact ⟨k + 1, by omega, by go_num, by rw [HN.out], stepB hb hb.size b⟩
              case measure => simp [intOf]; omega
          · obtain rfl : k = rows.length := by omega
            rw [HVV.out]
            have BB := B22.trans (hb.mono B22.size)
            go_wp2_with fail
            all_goals go_ret
            all_goals exact ⟨ret_bool (by first | rfl | (simp; omega)), BB⟩
    · have CI := hid (fun W => iSettledMaps_c t W)
      have CS := hid (fun W => sSettledMaps_c t W)
      rw [settledV_out hin] at CI CS
      clear hin
      go_wp2_with fail
      refine (CI.out _).mono ?_
      rintro e w21 ⟨rfl, b⟩
      have B21 := stepB B1 B1.size b
      clear b
      go_wp2_with fail
      refine (CS.out _).mono ?_
      rintro e w21' ⟨rfl, rfl⟩
      go_wp2_with fail
      refine (alive_c _).mono ?_
      rintro e w22 ⟨rfl, b⟩
      have B22 := stepB B21 B21.size b
      clear b
      go_wp2_with fail
      go_ret
      exact ⟨rfl, B22⟩

end Go.Proofs.Ytenmgiocbdabdaa
