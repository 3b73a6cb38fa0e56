/- The walk of the law FnSettledOf. -/
import Derived.Test.YtenmgiocbdabdaaS13
import Derived.Test.YtenmgiocbdabdaaI4
import Derived.Test.YtenmgiocbdabdaaM4
import Derived.Test.YtenmgiocbdabdaaM5
namespace Go.Proofs.Ytenmgiocbdabdaa
open Go.RowKit
set_option linter.unusedVariables false

theorem hasInt_c (A : Option Addr) (c : Nat) (xs : List Int) (x : Int) (w : World) (hR : RdA w A xs) (hn : xs.length ≤ 1048577) :
    Calls Try.prog 96 #[.slice A xs.length c, .int .i64 x] w fun e w' => e = .returned (.bool (decide (x ∈ xs))) ∧ w = w' := by
  go_enter Try.func96, Try.ntmps96
  go_wp2_with fail
  go_loop [5] (fun i => ∃ k : Nat, k ≤ xs.length ∧ i = .int .i64 k ∧ Hid (∀ j, j < k → nth xs j ≠ x)) (fun i => xs.length - (intOf i).toNat)
  case atStart => exact ⟨0, Nat.zero_le _, rfl, hid (fun j hj => by omega)⟩
  case round =>
    obtain ⟨k, hk, rfl, hall⟩ := hrel
    by_cases hlt : k < xs.length
    · obtain ⟨ad, rfl, hc⟩ := hR k hlt
      clear hR
      by_cases he : nth xs k = x
      · have HM := hid (decide_eq_true (show x ∈ xs by rw [← he]; exact nth_mem hlt))
        rw [he] at hc
        clear he
        go_wp2_with fail
        go_ret
        exact ⟨ret_bool (by rw [HM.out]), rfl⟩
      · have q1 : (nth xs k == x) = false := by simpa using he
        have HN := hid (show ∀ j, j < k + 1 → nth xs j ≠ x from fun j hj => by
          rcases Nat.lt_succ_iff_lt_or_eq.1 hj with h | rfl
          · exact hall.out j h
          · exact he)
        clear he hall
        generalize nth xs k = y at *
        go_wp2_with fail
        go_round
        case rel => exact ⟨k + 1, by omega, by go_num, HN⟩
        case measure => simp [intOf]; omega
    · obtain rfl : k = xs.length := by omega
      have HM := hid (decide_eq_false (show ¬ x ∈ xs from fun h => by
        obtain ⟨j, hj, e⟩ := List.getElem_of_mem h
        exact hall.out j hj (by rw [nth_lt hj]; exact e)))
      clear hR
      go_wp2_with fail
      go_ret
      exact ⟨ret_bool (by rw [HM.out]), rfl⟩
theorem mem_imageL {f : List Int} (hf : Good f) {k : Nat} : (k : Int) ∈ imageL f ↔ k < f.length ∧ ∃ j, j < f.length ∧ ap f j = k := by
  rw [imageL, if_pos (ok_of hf)]
  have e : (k : Int) ∈ ints (imN f f.length) ↔ k ∈ imN f f.length := by
    unfold ints
    rw [List.mem_map]
    exact ⟨fun ⟨x, hx, h⟩ => by have h2 : (x : Int) = (k : Int) := h; have : x = k := by omega
                                rwa [← this], fun h => ⟨k, h, rfl⟩⟩
  rw [e, imN]
  simp only [List.mem_filter, List.mem_range, decide_eq_true_eq]
  refine and_congr_right fun hk => ⟨fun h => ?_, fun ⟨j, hj, h⟩ => ?_⟩
  · obtain ⟨j, hj, h2⟩ := List.getElem_of_mem h
    refine ⟨j, hj, ?_⟩
    rw [← nth_lt hj, hf.nth_ap hj] at h2
    omega
  · have := nth_mem hj
    rwa [hf.nth_ap hj, h] at this
/-- the image of the settled power are the things on loops -/
theorem image_settled {f : List Int} (hf : Good f) {k : Nat} (hk : k < f.length) : decide ((k : Int) ∈ imageL (pw f (setN f))) = (tailV f k == 0) := by
  obtain ⟨s1, s2, s3, s4, s5, s6⟩ := setN_spec hf
  have key : (k : Int) ∈ imageL (pw f (setN f)) ↔ tail f k = 0 := by
    rw [mem_imageL (good_pw hf _), pw_len]
    constructor
    · rintro ⟨_, j, hj, e⟩
      rw [ap_pw hj] at e
      rw [← e, tail_it_eq hf hj]
      have := ((idxN_spec hf).2.2.2.1 (setN f) s4).1 s1 j hj
      omega
    · intro h
      refine ⟨hk, k, hk, ?_⟩
      rw [ap_pw hk]
      exact ((it_eq_iff hf hk s4).2 ⟨by omega, by rw [Nat.sub_zero]; exact (perN_dvd hf _).1 s3 k hk⟩).symm
  rw [tailV_yes (th_of hf hk)]
  by_cases h : tail f k = 0
  · rw [decide_eq_true (key.2 h), h]; rfl
  · rw [decide_eq_false (fun h2 => h (key.1 h2))]
    simp
    omega

set_option maxRecDepth 100000 in
set_option maxHeartbeats 4000000 in
theorem FnSettledOf_w (a : Option Addr) (len cap : Nat) (zs : List Int) (w : World) (h : RowIn .u8 w a len cap zs) :
    Calls Try.prog 23 #[.slice a len cap] w fun e w' => e = .returned (.bool true) ∧ Below w.heap.size w w' := by
  have hcap := h.cap
  unfold maxLen at hcap
  by_cases hbig : 1048576 < len
  · clear h
    go_enter Try.func23, Try.ntmps23
    go_wp2_with fail
    go_ret
    exact ⟨rfl, Below.refl _ _⟩
  · have hd := DrawSettledOf_c a len cap zs w h (by omega)
    clear h
    go_enter Try.func23, Try.ntmps23
    go_wp2_with fail
    refine hd.mono ?_
    rintro e w1 ⟨xs, A, c, hx8, rfl, of, B1⟩
    clear hd
    have hx : xs.length ≤ 1048577 := by omega
    by_cases hf : mapOkB xs = true
    · have gf := good_of hf
      obtain ⟨i1, i2, i3, i4, i5, i6⟩ := idxN_spec gf
      have p12 := perN_12 gf
      have p1 := (perN_bd gf).1
      obtain ⟨s1, s2, s3, s4, s5, s6⟩ := setN_spec gf
      have h7 := gf.1.2
      have e1 : settleL xs = pw xs (setN xs) := if_pos hf
      have e2 : settleV xs = (setN xs : Int) := if_pos hf
      have CI := hid (fun (A : Option Addr) c W (r : RdA W A xs) => by have := iSettledOf_p A c xs W r hx; rw [e1, e2, hf] at this; exact this)
      have CS := hid (fun (A : Option Addr) c W (r : RdA W A xs) => by have := sSettledOf_p A c xs W r hx; rw [e1, e2, hf] at this; exact this)
      have CX := hid (fun (A : Option Addr) c W (r : RdA W A xs) => by have := iIndexOf_c A c xs W r hx; rw [i1] at this; exact this)
      have CP := hid (fun (A : Option Addr) c W (r : RdA W A xs) => by have := iPeriodOf_c A c xs W r hx; rw [periodV_yes gf] at this; exact this)
      have CW := hid (power_at gf)
      have HL := hid (show ∀ m, (pw xs m).length ≤ 1048577 from fun m => by rw [pw_len]; omega)
      have CD := hid (show ∀ (m : Nat) (A : Option Addr) c W, RdA W A (pw xs m) → _ from fun m A c W r => iIdempotentOk_c A c (pw xs m) W r (HL.out m))
      have CM := hid (fun (A : Option Addr) c W (r : RdA W A (pw xs (setN xs))) => iImageOf_c A c (pw xs (setN xs)) W r (HL.out _))
      have HIL := hid (show (imageL (pw xs (setN xs))).length ≤ 1048577 by
        unfold imageL
        split
        · rw [ints_len]; have := imN_len (pw xs (setN xs)) (pw xs (setN xs)).length; rw [pw_len] at this; rw [pw_len]; omega
        · simp)
      have CH := hid (fun k (hk : k < xs.length) (A : Option Addr) c W (r : RdA W A (imageL (pw xs (setN xs)))) => by have := hasInt_c A c (imageL (pw xs (setN xs))) (k : Int) W r HIL.out; rw [image_settled gf hk] at this; exact this)
      have CO := hid (fun (k : Nat) (A : Option Addr) c W (r : RdA W A xs) => iOnLoop_c A c xs (k : Int) W r hx)
      have HID := hid (show idemB (pw xs (setN xs)) = true from (idem_iff gf s4).2 ⟨s1, s3⟩)
      have HEQ := hid (show ∀ m, 1 ≤ m → idemB (pw xs m) = true → pw xs m = pw xs (setN xs) from fun m hm h => by
        obtain ⟨a1, a2⟩ := (idem_iff gf hm).1 h
        rcases Nat.lt_trichotomy m (setN xs) with h3 | h3 | h3
        · have := s6 m a1 a2; omega
        · rw [h3]
        · exact ((pw_eq_iff' gf s4 h3).2 ⟨s1, Nat.dvd_sub a2 s3⟩).symm)
      have HMD := hid (Nat.mod_eq_zero_of_dvd s3)
      clear gf i1 i4 i5 i6 hf e1 e2 s6
      generalize idxN xs = I at *
      generalize perN xs = P at *
      have q1 : ((setN xs : Int) % (P : Int)) = 0 := by rw [← Int.natCast_emod, HMD.out]; rfl
      clear s3 HMD
      generalize setN xs = S at *
      have q2 : decide (S < I) = false := decide_eq_false (by omega)
      have q3 : decide ((P : Int) < 1) = false := decide_eq_false (by omega)
      have q4 : decide ((I : Int) ≤ (S : Int) - (P : Int)) = false := decide_eq_false (by omega)
      go_wp2_with fail
      refine (CI.out A c _ of.rd).mono ?_
      rintro e w21 ⟨Ax, cx, rfl, ox, b⟩
      have B21 := stepB B1 B1.size b
      replace of := of.below b
      clear b
      go_wp2_with fail
      refine (CS.out A c _ of.rd).mono ?_
      rintro e w22 ⟨Ay, cy, rfl, oy, b⟩
      have B22 := stepB B21 B21.size b
      replace of := of.below b
      replace ox := ox.below b
      clear b
      go_wp2_with fail
      refine (sameInts_t Ax Ay cx cy (pw xs S) (pw xs S) _ ox.rd oy.rd (HL.out _) (HL.out _) rfl).mono ?_
      rintro e w23 ⟨rfl, b⟩
      have B23 := stepB B22 B22.size b
      replace of := of.below b
      replace ox := ox.below b
      replace oy := oy.below b
      clear b
      clear oy
      go_wp2_with fail
      refine (CP.out A c _ of.rd).mono ?_
      rintro e w24 ⟨rfl, b⟩
      have B24 := stepB B23 B23.size b
      replace of := of.below b
      replace ox := ox.below b
      clear b
      go_wp2_with fail
      refine (CX.out A c _ of.rd).mono ?_
      rintro e w25 ⟨rfl, b⟩
      have B25 := stepB B24 B24.size b
      replace of := of.below b
      replace ox := ox.below b
      clear b
      go_wp2_with fail
      refine (CX.out A c _ of.rd).mono ?_
      rintro e w26 ⟨rfl, b⟩
      have B26 := stepB B25 B25.size b
      replace of := of.below b
      replace ox := ox.below b
      clear b
      clear q1
      go_wp2_with fail
      go_loopw [11] (fun i wr => ∃ k : Nat, 1 ≤ k ∧ k ≤ 30 ∧ i = .int .i64 k ∧ Own w.heap.size wr (.slice A xs.length c) xs ∧ Own w1.heap.size wr (.slice Ax (pw xs S).length cx) (pw xs S) ∧ Below w.heap.size w wr) (fun i _ => 30 - (intOf i).toNat)
      case atStart => exact ⟨1, Nat.le_refl _, by omega, rfl, of, ox, B26⟩
      case round =>
        clear of ox B21 B22 B23 B24 B25 B26
        obtain ⟨k, hk1, hk, rfl, of, ox, hb⟩ := hrel
        by_cases hlt : k < 30
        · go_wp2_with fail
          refine (CW.out _ k rfl (by omega) A c _ of.rd).mono ?_
          rintro e w27 ⟨Az, cz, rfl, oz, b⟩
          have B27 := stepB hb hb.size b
          replace of := of.below b
          replace ox := ox.below b
          clear b
          have K := hid (CD.out k Az cz _ oz.rd)
          by_cases hid2 : idemB (pw xs k) = true
          · have HE := hid (HEQ.out k hk1 hid2)
            rw [hid2] at K
            clear hid2
            go_wp2_with fail
            refine (K.out).mono ?_
            rintro e w28 ⟨rfl, b⟩
            have B28 := stepB B27 B27.size b
            replace of := of.below b
            replace ox := ox.below b
            replace oz := oz.below b
            clear b
            go_wp2_with fail
            refine (sameInts_t Az Ax cz cx (pw xs k) (pw xs S) _ oz.rd ox.rd (HL.out _) (HL.out _) HE.out).mono ?_
            rintro e w29 ⟨rfl, b⟩
            have B29 := stepB B28 B28.size b
            replace of := of.below b
            replace ox := ox.below b
            replace oz := oz.below b
            clear b
            go_wp2_with fail
            go_roundw
            case rel => first | exact ⟨k + 1, by omega, by omega, by go_num, of, ox, B29⟩ | ((repeat apply Exists.intro); exact ⟨⟨k + 1, by omega, by omega, by go_num, of, ox, B29⟩, rfl⟩)
            case measure => simp [intOf]; omega
          · rw [show idemB (pw xs k) = false by simpa using hid2] at K
            clear hid2
            go_wp2_with fail
            refine (K.out).mono ?_
            rintro e w28 ⟨rfl, b⟩
            have B28 := stepB B27 B27.size b
            replace of := of.below b
            replace ox := ox.below b
            replace oz := oz.below b
            clear b
            go_wp2_with fail
            go_roundw
            case rel => first | exact ⟨k + 1, by omega, by omega, by go_num, of, ox, B28⟩ | ((repeat apply Exists.intro); exact ⟨⟨k + 1, by omega, by omega, by go_num, of, ox, B28⟩, rfl⟩)
            case measure => simp [intOf]; omega
        · obtain rfl : k = 30 := by omega
          go_wp2_with fail
          refine (CM.out Ax cx _ ox.rd).mono ?_
          rintro e w27 ⟨Am, cm, rfl, om, b⟩
          have B27 := stepB hb hb.size b
          replace of := of.below b
          replace ox := ox.below b
          clear b
          go_wp2_with fail
          go_loopw [14] (fun i wr => ∃ j : Nat, j ≤ xs.length ∧ i = .int .i64 j ∧ Own w.heap.size wr (.slice A xs.length c) xs ∧ Own w1.heap.size wr (.slice Ax (pw xs S).length cx) (pw xs S) ∧ RdA wr Am (imageL (pw xs S)) ∧ Below w.heap.size w wr) (fun i _ => xs.length - (intOf i).toNat)
          case atStart => exact ⟨0, Nat.zero_le _, rfl, of, ox, om.rd, B27⟩
          case round =>
            clear of ox om B27
            obtain ⟨j, hj, rfl, of, ox, om, hb⟩ := hrel
            by_cases hlj : j < xs.length
            · have K1 := hid (CH.out j hlj Am cm _ om)
              have K2 := hid (fun W r => CO.out j A c W r)
              generalize (tailV xs (j : Int) == 0) = tb at *
              go_wp2_with fail
              refine (K1.out).mono ?_
              rintro e w27' ⟨rfl, rfl⟩
              go_wp2_with fail
              refine (K2.out _ of.rd).mono ?_
              rintro e w28 ⟨rfl, b⟩
              have B28 := stepB hb hb.size b
              replace of := of.below b
              replace ox := ox.below b
              replace om := om.below b
              clear b
              go_wp2_with fail
              go_roundw
              case rel => exact ⟨j + 1, by omega, by go_num, of, ox, om, B28⟩
              case measure => simp [intOf]; omega
            · obtain rfl : j = xs.length := by omega
              have K := hid (CD.out S Ax cx _ ox.rd)
              rw [HID.out] at K
              go_wp2_with fail
              refine (K.out).mono ?_
              rintro e w28 ⟨rfl, b⟩
              have B28 := stepB hb hb.size b
              replace of := of.below b
              replace ox := ox.below b
              clear b
              go_wp2_with fail
              refine (CW.out _ S rfl (by omega) A c _ of.rd).mono ?_
              rintro e w29 ⟨Az, cz, rfl, oz, b⟩
              have B29 := stepB B28 B28.size b
              replace of := of.below b
              replace ox := ox.below b
              clear b
              go_wp2_with fail
              refine (sameInts_t Az Ax cz cx (pw xs S) (pw xs S) _ oz.rd ox.rd (HL.out _) (HL.out _) rfl).mono ?_
              rintro e w30 ⟨rfl, b⟩
              have B30 := stepB B29 B29.size b
              replace of := of.below b
              replace ox := ox.below b
              replace oz := oz.below b
              clear b
              go_wp2_with fail
              go_ret
              exact ⟨rfl, B30⟩
    · have hf' : mapOkB xs = false := by simpa using hf
      have e1 : settleL xs = [] := if_neg hf
      have e2 : settleV xs = -1 := if_neg hf
      have CI := hid (fun (A : Option Addr) c W (r : RdA W A xs) => by have := iSettledOf_p A c xs W r hx; rw [e1, e2, hf'] at this; exact this)
      have CS := hid (fun (A : Option Addr) c W (r : RdA W A xs) => by have := sSettledOf_p A c xs W r hx; rw [e1, e2, hf'] at this; exact this)
      clear e1 e2 hf hf'
      go_wp2_with fail
      refine (CI.out A c _ of.rd).mono ?_
      rintro e w21 ⟨Ax, cx, rfl, ox, b⟩
      have B21 := stepB B1 B1.size b
      replace of := of.below b
      clear b
      go_wp2_with fail
      refine (CS.out A c _ of.rd).mono ?_
      rintro e w22 ⟨Ay, cy, rfl, oy, b⟩
      have B22 := stepB B21 B21.size b
      replace of := of.below b
      replace ox := ox.below b
      clear b
      go_wp2_with fail
      refine (sameInts_t Ax Ay cx cy [] [] _ ox.rd oy.rd (by simp) (by simp) rfl).mono ?_
      rintro e w23 ⟨rfl, b⟩
      have B23 := stepB B22 B22.size b
      replace of := of.below b
      replace ox := ox.below b
      replace oy := oy.below b
      clear b
      clear of
      clear ox
      clear oy
      go_wp2_with fail
      refine (alive_c _).mono ?_
      rintro e w24 ⟨rfl, b⟩
      have B24 := stepB B23 B23.size b
      clear b
      go_wp2_with fail
      go_ret
      exact ⟨rfl, B24⟩

end Go.Proofs.Ytenmgiocbdabdaa
