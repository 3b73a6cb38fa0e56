/- The walk of the law FnOneLotOf. -/
import Derived.Test.YtenmgiocbdabdaaT2
import Derived.Test.YtenmgiocbdabdaaD2
import Derived.Test.YtenmgiocbdabdaaM4
import Derived.Test.YtenmgiocbdabdaaM5
namespace Go.Proofs.Ytenmgiocbdabdaa
open Go.RowKit
set_option linter.unusedVariables false

set_option maxHeartbeats 2000000 in
theorem FnOneLotOf_w (a : Option Addr) (len cap : Nat) (zs : List Int) (w : World) (h : RowIn .u8 w a len cap zs) :
    Calls Try.prog 11 #[.slice a len cap] w fun e w' => e = .returned (.bool true) ∧ Below w.heap.size w w' := by
  have hcap := h.cap
  unfold maxLen at hcap
  by_cases hbig : 1048576 < len
  · clear h
    go_enter Try.func11, Try.ntmps11
    go_wp2_with fail
    go_ret
    exact ⟨rfl, Below.refl _ _⟩
  · have hd := DrawOneLotOf_c a len cap zs w h (by omega)
    clear h
    go_enter Try.func11, Try.ntmps11
    go_wp2_with fail
    refine hd.mono ?_
    rintro e w1 ⟨t, rfl, ht0, ht8, B1⟩
    clear hd
    by_cases hin : 1 ≤ t ∧ t ≤ 7
    · obtain ⟨T, rfl⟩ := Int.eq_ofNat_of_zero_le ht0
      have hT1 : 1 ≤ T := by omega
      have hT7 : T ≤ 7 := by omega
      have hps := one_pos T hT7 hT1
      have CI := hid (fun W => iOneLotOf_c T W)
      have CS := hid (fun W => sOneLotOf_c T W)
      have HV := hid (show ∀ h : T ≤ 4, (cntR oneB (allK T T) (allK T T).length : Int) = oneLotV T from fun h => one_cnt T h hT1)
      clear ht0 ht8 hin
      obtain ⟨hV, hge, hps2⟩ := hps
      have C3 := hid (fun W => iTreesOf_c (T : Int) W)
      generalize onLoopsV (T : Int) 1 = V2 at *
      generalize oneLotV (T : Int) = V at *
      go_wp2_with fail
      refine (CI.out _).mono ?_
      rintro e w21 ⟨rfl, b⟩
      have B21 := stepB B1 B1.size b
      clear b
      go_wp2_with fail
      refine (CS.out _).mono ?_
      rintro e w21' ⟨rfl, rfl⟩
      by_cases h4 : 4 < T
      · have hlt4 := hps2 h4
        go_wp2_with fail
        refine (C3.out _).mono ?_
        rintro e w22 ⟨rfl, b⟩
        have B22 := stepB B21 B21.size b
        clear b
        go_wp2_with fail
        all_goals go_ret
        all_goals exact ⟨ret_bool (by first | rfl | (simp; omega)), B22⟩
      · have h4 : T ≤ 4 := by omega
        go_wp2_with fail
        refine (allMaps_c T _ hT1 h4).mono ?_
        rintro e w22 ⟨D, d, rfl, orr, b⟩
        have B22 := stepB B21 B21.size b
        clear b
        have HO := hid orr
        have HG := hid (show ∀ i, i < (allK T T).length → Good (gl (allK T T) i) ∧ (gl (allK T T) i).length = T from fun i hi => allK_good hT1 h4 (gl_mem hi))
        have HVV := hid (HV.out h4)
        have hrl := allK_bound h4 h4
        clear orr HV
        generalize allK T T = rows at *
        go_wp2_with fail
        go_loopw [5, 7] (fun m i wr => ∃ k : Nat, k ≤ rows.length ∧ i = .int .i64 k ∧ m = .int .i64 (cntR oneB rows k : Nat) ∧ Below w22.heap.size w22 wr) (fun _ i _ => rows.length - (intOf i).toNat)
        case atStart => exact ⟨0, Nat.zero_le _, rfl, rfl, Below.refl _ _⟩
        case round =>
          obtain ⟨k, hk, rfl, rfl, hb⟩ := hrel
          have hcl := cntR_le oneB rows k
          by_cases hlt : k < rows.length
          · obtain ⟨g, E, e0, rfl, hg, hc, hoE⟩ := (HO.out.below hb).at_ hlt
            obtain ⟨hgood, hlen⟩ := HG.out k hlt
            have K := iLoopsOf_c _ e0 (gl rows k) wr hoE.rd (by omega)
            have HLN := hid hlen
            have HC := hid hc
            by_cases hp : oneB (gl rows k) = true
            · have HN := hid (cntR_yes (p := oneB) hp)
              have HP := hid hp
              clear hp hoE hlen hgood
              generalize cntR oneB rows k = M at *
              have HQ := hid (show ((loopsLL (gl rows k)).length == 1) = true from HP.out)
              have KK := hid K
              clear K
              go_wp2_with fail
              refine KK.out.mono ?_
              rintro e w40 ⟨E2, e2, rfl, -, b⟩
              have q1 : (((loopsLL (gl rows k)).length : Int) == 1) = true := by have := HQ.out; simp at this ⊢; omega
              generalize (loopsLL (gl rows k)).length = Z at *
              go_wp2_with fail
              go_roundw
              case rel => exact ⟨k + 1, by omega, by go_num, by rw [HN.out]; go_num, stepB hb hb.size b⟩
              case measure => simp [intOf]; omega
            · have hp : oneB (gl rows k) = false := by simpa using hp
              have HN := hid (cntR_no (p := oneB) hp)
              have HP := hid hp
              clear hp hoE hlen hgood
              generalize cntR oneB rows k = M at *
              have HQ := hid (show ((loopsLL (gl rows k)).length == 1) = false from HP.out)
              have KK := hid K
              clear K
              go_wp2_with fail
              refine KK.out.mono ?_
              rintro e w40 ⟨E2, e2, rfl, -, b⟩
              have q1 : (((loopsLL (gl rows k)).length : Int) == 1) = false := by have := HQ.out; simp at this ⊢; omega
              generalize (loopsLL (gl rows k)).length = Z at *
              go_wp2_with fail
              go_roundw
              case rel => exact ⟨k + 1, by omega, by go_num, by rw [HN.out], stepB hb hb.size b⟩
              case measure => simp [intOf]; omega
          · obtain rfl : k = rows.length := by omega
            rw [HVV.out]
            have BB := B22.trans (hb.mono B22.size)
            go_wp2_with fail
            refine (C3.out _).mono ?_
            rintro e w23 ⟨rfl, b⟩
            have B23 := stepB BB BB.size b
            clear b
            go_wp2_with fail
            all_goals go_ret
            all_goals exact ⟨ret_bool (by first | rfl | (simp; omega)), B23⟩
    · have CI := hid (fun W => iOneLotOf_c t W)
      have CS := hid (fun W => sOneLotOf_c t W)
      rw [oneLotV_out hin] at CI CS
      clear hin
      go_wp2_with fail
      refine (CI.out _).mono ?_
      rintro e w21 ⟨rfl, b⟩
      have B21 := stepB B1 B1.size b
      clear b
      go_wp2_with fail
      refine (CS.out _).mono ?_
      rintro e w21' ⟨rfl, rfl⟩
      go_wp2_with fail
      refine (alive_c _).mono ?_
      rintro e w22 ⟨rfl, b⟩
      have B22 := stepB B21 B21.size b
      clear b
      go_wp2_with fail
      go_ret
      exact ⟨rfl, B22⟩

end Go.Proofs.Ytenmgiocbdabdaa
