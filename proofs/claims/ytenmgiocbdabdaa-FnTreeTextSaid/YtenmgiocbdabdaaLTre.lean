/- The walk of the law FnTreeText. -/
import Derived.Test.YtenmgiocbdabdaaY2
import Derived.Test.YtenmgiocbdabdaaX6
import Derived.Test.YtenmgiocbdabdaaX4
import Derived.Test.YtenmgiocbdabdaaI3
import Derived.Test.YtenmgiocbdabdaaM4
import Derived.Test.YtenmgiocbdabdaaM5
namespace Go.Proofs.Ytenmgiocbdabdaa
open Go.RowKit
set_option linter.unusedVariables false

set_option maxHeartbeats 4000000 in
theorem FnTreeText_w (a : Option Addr) (len cap : Nat) (zs : List Int) (w : World) (h : RowIn .u8 w a len cap zs) :
    Calls Try.prog 26 #[.slice a len cap] w fun e w' => e = .returned (.bool true) ∧ Below w.heap.size w w' := by
  have hcap := h.cap
  unfold maxLen at hcap
  by_cases hbig : 1048576 < len
  · clear h
    go_enter Try.func26, Try.ntmps26
    go_wp2_with fail
    go_ret
    exact ⟨rfl, Below.refl _ _⟩
  · have hd := DrawTreeText_c a len cap zs w h (by omega)
    clear h
    go_enter Try.func26, Try.ntmps26
    go_wp2_with fail
    refine hd.mono ?_
    rintro e w1 ⟨xs, A, c, z, hx8, hz0, hz1, rfl, of, B1⟩
    clear hd
    have hx : xs.length ≤ 1048577 := by omega
    by_cases ht : thB xs z = true
    · obtain ⟨t, rfl, hlt, hf⟩ := th_nat ht
      have h7 := hf.1.2
      have CI := hid (fun (A : Option Addr) c W (r : RdA W A xs) => by have := iTreeText_c A c xs t W r hx; rw [treeV, if_pos ht, Int.toNat_natCast] at this; exact this)
      have CS := hid (fun (A : Option Addr) c W (r : RdA W A xs) => by have := sTreeText_c A c xs t W r hx; rw [treeV, if_pos ht, Int.toNat_natCast] at this; exact this)
      have CF := hid (fun (A : Option Addr) c W (r : RdA W A xs) => by have := iFromOf_c A c xs t W r hx; rw [fromI, if_pos ht] at this; exact this)
      have CO := hid (fun (A : Option Addr) c (k : Nat) W (r : RdA W A xs) (hk : k < xs.length) => by have := iOnLoop_c A c xs (k : Int) W r hx; rw [tailV_yes (th_of hf hk)] at this; exact this)
      have HF := hid hf
      have HSZ := hid (show (tree xs t).length = 2 * cntU xs t xs.length from tree_size hf hlt)
      have q0 : (bs (tree xs t)).toList.isEmpty = false := by rw [tree_eq hf hlt]; simp [bs]
      have HC := hid (show frN xs t xs.length = [] → tree xs t = [40, 41] from fun h => by rw [tree_eq hf hlt, childs_none h]; simp [sortT])
      have HFL := hid (frN_len xs t xs.length)
      clear ht hf
      generalize tree xs t = X at *
      go_wp2_with fail
      refine (CI.out A c _ of.rd).mono ?_
      rintro e w21 ⟨rfl, b⟩
      have B21 := stepB B1 B1.size b
      replace of := of.below b
      clear b
      go_wp2_with fail
      refine (CS.out A c _ of.rd).mono ?_
      rintro e w22 ⟨rfl, b⟩
      have B22 := stepB B21 B21.size b
      replace of := of.below b
      clear b
      go_wp2_with fail
      have HRD := hid of.rd
      go_loopw [6, 7] (fun n i wr => ∃ k : Nat, k ≤ xs.length ∧ i = .int .i64 k ∧ n = .int .i64 (cntU xs t k : Nat) ∧ Below w22.heap.size w22 wr) (fun _ i _ => xs.length - (intOf i).toNat)
      case atStart => exact ⟨0, Nat.zero_le _, rfl, rfl, Below.refl _ _⟩
      case round =>
        obtain ⟨k, hk, rfl, rfl, hb⟩ := hrel
        have hcl := cntU_le xs t k
        by_cases hlk : k < xs.length
        · go_wp2_with fail
          go_loopw [8, 9] (fun m j wr => ∃ i : Nat, i ≤ xs.length ∧ j = .int .i64 i ∧ m = .int .i64 (it xs i k : Nat) ∧ Hid (onWay xs t k i) ∧ Below w22.heap.size w22 wr) (fun _ j _ => xs.length - (intOf j).toNat)
          case atStart => exact ⟨0, Nat.zero_le _, rfl, rfl, hid (onWay_zero _ _ _), hb⟩
          case round =>
            clear hb
            obtain ⟨i, hi, rfl, rfl, HW, hb⟩ := hrel
            have hti := tail_le HF.out hlk
            have hil : i < xs.length := by have := HW.out.1; omega
            have hm := HF.out.it_lt hlk i
            have KO := hid (CO.out A c (it xs i k) wr (HRD.out.below hb) hm)
            by_cases h1 : it xs i k = t
            · obtain ⟨u1, u2⟩ := up_yes HF.out hlk HW.out h1
              have HN := hid (cntU_yes u1)
              rw [h1]
              clear h1 KO u1 HW hm
              generalize cntU xs t k = M at *
              by_cases h2 : k = t
              · subst h2
                go_wp2_with fail
                go_roundw
                case rel => exact ⟨k + 1, by omega, by go_num, by rw [HN.out]; go_num, hb⟩
                case measure => simp [intOf]; omega
              · have q1 : ((k : Int) == (t : Int)) = false := by simp; omega
                have q2 : ((tail xs k : Int) == 0) = false := by have := u2 h2; simp; omega
                have KK := hid (CO.out A c k wr (HRD.out.below hb) hlk)
                rw [q2] at KK
                have q3 : ¬ k = t := h2
                have q4 : (k == t) = false := by simpa using h2
                clear u2 h2 q2
                go_wp2_with fail
                refine KK.out.mono ?_; rintro e w41 ⟨rfl, b⟩
                have hb41 := stepB hb hb.size b
                go_wp2_with fail
                go_roundw
                case rel => exact ⟨k + 1, by omega, by go_num, by rw [HN.out]; go_num, hb41⟩
                case measure => simp [intOf]; omega
            · have q1 : ((it xs i k : Int) == (t : Int)) = false := by simp; omega
              have q3 : ¬ it xs i k = t := h1
              have q4 : (it xs i k == t) = false := by simpa using h1
              by_cases h2 : tail xs (it xs i k) = 0
              · have HN := hid (cntU_no (up_no HF.out hlk HW.out h1 h2))
                rw [h2] at KO
                have KO := hid KO.out
                clear h1 h2 HW
                generalize cntU xs t k = M at *
                generalize it xs i k = m at *
                go_wp2_with fail
                refine KO.out.mono ?_; rintro e w41 ⟨rfl, b⟩
                have hb41 := stepB hb hb.size b
                go_wp2_with fail
                go_roundw
                case rel => exact ⟨k + 1, by omega, by go_num, by rw [HN.out], hb41⟩
                case measure => simp [intOf]; omega
              · have HN := hid (onWay_succ HF.out hlk HW.out h1 h2)
                have q2 : ((tail xs (it xs i k) : Int) == 0) = false := by simp; omega
                rw [q2] at KO
                have HNX := hid (show nth xs (it xs i k) = (it xs (i + 1) k : Nat) by rw [HF.out.nth_ap hm]; rfl)
                clear h1 h2 HW q2
                obtain ⟨m2, hm2⟩ : ∃ m2, it xs (i + 1) k = m2 := ⟨_, rfl⟩
                rw [hm2] at HNX
                have HM2 := hid hm2
                clear hm2
                generalize it xs i k = m at *
                go_wp2_with fail
                refine KO.out.mono ?_; rintro e w41 ⟨rfl, b⟩
                have hb41 := stepB hb hb.size b
                obtain ⟨ad, rfl, hc⟩ := (HRD.out.below hb41) m hm
                rw [HNX.out] at hc
                go_wp2_with fail
                go_roundw
                case rel => exact ⟨i + 1, by omega, by go_num, by rw [HM2.out], HN, hb41⟩
                case measure => simp [intOf]; omega
        · obtain rfl : k = xs.length := by omega
          have BB := B22.trans (hb.mono B22.size)
          have KF := hid (CF.out A c wr (HRD.out.below hb))
          clear CF CO CI CS
          obtain ⟨N, hN⟩ : ∃ N, cntU xs t xs.length = N := ⟨_, rfl⟩
          rw [hN] at hcl HSZ ⊢
          have hsz : (bs X).size = 2 * N := by rw [bs_size, HSZ.out]
          clear hN HSZ HF
          have hN7 : N ≤ 7 := by omega
          go_wp2_with fail
          refine KF.out.mono ?_; rintro e w51 ⟨D, d, rfl, -, b⟩
          have BE := stepB BB BB.size b
          by_cases hfr : (ints (frN xs t xs.length)).length = 0
          · have hX := HC.out (by rw [ints_len] at hfr; exact List.eq_nil_of_length_eq_zero hfr)
            rw [hfr, hX]
            go_wp2_with fail
            go_ret
            exact ⟨ret_bool (by simp [bs]), BE⟩
          · have hp : 0 < (ints (frN xs t xs.length)).length := by omega
            generalize (ints (frN xs t xs.length)).length = Z at *
            go_wp2_with fail
            go_ret
            exact ⟨rfl, BE⟩
    · have ht' : treeV xs z = [] := if_neg ht
      have CI := hid (fun (A : Option Addr) c W (r : RdA W A xs) => by have := iTreeText_c A c xs z W r hx; rw [ht'] at this; exact this)
      have CS := hid (fun (A : Option Addr) c W (r : RdA W A xs) => by have := sTreeText_c A c xs z W r hx; rw [ht'] at this; exact this)
      have q0 : (bs []).toList.isEmpty = true := by simp [bs]
      clear ht ht'
      go_wp2_with fail
      refine (CI.out A c _ of.rd).mono ?_
      rintro e w21 ⟨rfl, b⟩
      have B21 := stepB B1 B1.size b
      replace of := of.below b
      clear b
      go_wp2_with fail
      refine (CS.out A c _ of.rd).mono ?_
      rintro e w22 ⟨rfl, b⟩
      have B22 := stepB B21 B21.size b
      replace of := of.below b
      clear b
      go_wp2_with fail
      refine (alive_c _).mono ?_
      rintro e w23 ⟨rfl, b⟩
      have B23 := stepB B22 B22.size b
      replace of := of.below b
      clear b
      go_wp2_with fail
      go_ret
      exact ⟨rfl, B23⟩

end Go.Proofs.Ytenmgiocbdabdaa
