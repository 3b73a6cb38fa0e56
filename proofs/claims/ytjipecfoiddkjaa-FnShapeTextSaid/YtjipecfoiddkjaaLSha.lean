/- The walk of the law FnShapeText. -/
import Derived.Test.YtjipecfoiddkjaaY5
import Derived.Test.YtjipecfoiddkjaaX10
import Derived.Test.YtjipecfoiddkjaaD4
import Derived.Test.YtjipecfoiddkjaaM4
import Derived.Test.YtjipecfoiddkjaaM5
namespace Go.Proofs.Ytjipecfoiddkjaa
open Go.RowKit
set_option linter.unusedVariables false

theorem ne_isEmpty' {X : Txt} (h : X ≠ []) : (bs X).toList.isEmpty = false := by
  cases X with
  | nil => exact absurd rfl h
  | cons x r => simp [bs]
theorem u8_ne {y b : UInt8} (h : ¬ y = b) : ((y.toNat : Int) == (b.toNat : Int)) = false := by
  have : y.toNat ≠ b.toNat := fun e => h (UInt8.toNat_inj.1 e)
  simp; omega
/-- how often b stands among the first k bytes -/
def cntB (b : UInt8) (X : Txt) (k : Nat) : Nat := (X.take k).count b
theorem cntB_all (b : UInt8) (X : Txt) : cntB b X X.length = X.count b := by rw [cntB, List.take_length]
theorem cntB_le (b : UInt8) (X : Txt) (k : Nat) : cntB b X k ≤ k := Nat.le_trans List.count_le_length (by simp; omega)
theorem cntB_yes {b : UInt8} {X : Txt} {k : Nat} {y : UInt8} (h : X[k]? = some y) (e : y = b) : cntB b X (k + 1) = cntB b X k + 1 := by
  rw [cntB, cntB, List.take_add_one, h, List.count_append]; subst e; simp
theorem cntB_no {b : UInt8} {X : Txt} {k : Nat} {y : UInt8} (h : X[k]? = some y) (e : ¬ y = b) : cntB b X (k + 1) = cntB b X k := by
  rw [cntB, cntB, List.take_add_one, h, List.count_append]
  have : List.count b (some y).toList = 0 := by simp [e]
  rw [this]; rfl

set_option maxHeartbeats 4000000 in
theorem FnShapeText_w (a : Option Addr) (len cap : Nat) (zs : List Int) (w : World) (h : RowIn .u8 w a len cap zs) :
    Calls Try.prog 4 #[.slice a len cap] w fun e w' => e = .returned (.bool true) ∧ Below w.heap.size w w' := by
  have hcap := h.cap
  unfold maxLen at hcap
  by_cases hbig : 1048576 < len
  · clear h
    go_enter Try.func4, Try.ntmps4
    go_wp2_with fail
    go_ret
    exact ⟨rfl, Below.refl _ _⟩
  · have hd := DrawShapeText_c a len cap zs w h (by omega)
    clear h
    go_enter Try.func4, Try.ntmps4
    go_wp2_with fail
    refine hd.mono ?_
    rintro e w1 ⟨xs, A, c, hx8, rfl, of, B1⟩
    clear hd
    have hx : xs.length ≤ 1048577 := by omega
    by_cases hok : mapOkB xs = true
    · have hf := good_of hok
      have h7 := hf.1.2
      have h1 := hf.1.1
      have CI := hid (fun (A : Option Addr) c W (r : RdA W A xs) => iShapeText_c A c xs W r hx)
      have CS := hid (fun (A : Option Addr) c W (r : RdA W A xs) => sShapeText_c A c xs W r hx)
      have CL := hid (fun (A : Option Addr) c W (r : RdA W A xs) => iLoopsOf_c A c xs W r hx)
      have HSZ : (shapeT xs).length = xs.length * 2 + ((loopsLL xs).length - 1) * 1 := shape_mu (μ := List.length) (fun a b => List.length_append) hf
      have H40 : (shapeT xs).count 40 = xs.length * 1 + ((loopsLL xs).length - 1) * 0 := shape_mu (μ := List.count 40) (fun a b => List.count_append) hf
      have H43 : (shapeT xs).count 43 = xs.length * 0 + ((loopsLL xs).length - 1) * 1 := shape_mu (μ := List.count 43) (fun a b => List.count_append) hf
      have hll := loops7 xs
      have hlp : 1 ≤ (loopsLL xs).length := by
        rw [mins_len hf]
        have : loopOf xs 0 ∈ mins xs := mem_mins.2 ⟨loopOf_lt hf h1, loopOf_idem hf h1⟩
        exact List.length_pos_of_mem this
      have q0 : (bs (shapeT xs)).toList.isEmpty = false := ne_isEmpty' (fun e => by rw [e, List.length_nil] at HSZ; omega)
      rw [← cntB_all] at H40 H43
      have hX : (shapeT xs).length ≤ 20 := by omega
      have K40 := hid H40
      have K43 := hid H43
      have KSZ := hid HSZ
      clear hok hf HSZ H40 H43
      generalize shapeT xs = X at *
      go_wp2_with fail
      refine (CI.out A c _ of.rd).mono ?_
      rintro e w21 ⟨rfl, b⟩
      have B21 := stepB B1 B1.size b
      replace of := of.below b
      clear b
      go_wp2_with fail
      refine (CS.out A c _ of.rd).mono ?_
      rintro e w22 ⟨rfl, b⟩
      have B22 := stepB B21 B21.size b
      replace of := of.below b
      clear b
      go_wp2_with fail
      go_loop [5, 6, 7] (fun o q i => ∃ k : Nat, k ≤ X.length ∧ i = .int .i64 k ∧ o = .int .i64 (cntB 40 X k : Nat) ∧ q = .int .i64 (cntB 43 X k : Nat)) (fun _ _ i => X.length - (intOf i).toNat)
      case atStart => exact ⟨0, Nat.zero_le _, rfl, rfl, rfl⟩
      case round =>
        obtain ⟨k, hk, rfl, rfl, rfl⟩ := hrel
        have hc1 := cntB_le 40 X k
        have hc2 := cntB_le 43 X k
        have hsz : (bs X).size = X.length := bs_size X
        by_cases hlk : k < X.length
        · have hgx := List.getElem?_eq_getElem hlk
          have HB : (bs X)[k] = X[k] := rfl
          by_cases h4 : X[k] = 40
          · have h5 : ¬ X[k] = 43 := by rw [h4]; decide
            have q1 : (((bs X)[k].toNat : Int) == 40) = true := by rw [HB]; simp [h4]
            have q2 : (((bs X)[k].toNat : Int) == 43) = false := by rw [HB]; exact u8_ne (b := 43) h5
            have N1 := hid (cntB_yes (b := 40) hgx h4)
            have N2 := hid (cntB_no (b := 43) hgx h5)
            clear h4 h5 hgx HB
            go_wp2_with fail
            go_round
            case rel => exact ⟨k + 1, by omega, by go_num, by rw [N1.out]; go_num, by rw [N2.out]⟩
            case measure => simp [intOf]; omega
          · by_cases h5 : X[k] = 43
            · have q1 : (((bs X)[k].toNat : Int) == 40) = false := by rw [HB]; exact u8_ne (b := 40) h4
              have q2 : (((bs X)[k].toNat : Int) == 43) = true := by rw [HB]; simp [h5]
              have N1 := hid (cntB_no (b := 40) hgx h4)
              have N2 := hid (cntB_yes (b := 43) hgx h5)
              clear h4 h5 hgx HB
              go_wp2_with fail
              go_round
              case rel => exact ⟨k + 1, by omega, by go_num, by rw [N1.out], by rw [N2.out]; go_num⟩
              case measure => simp [intOf]; omega
            · have q1 : (((bs X)[k].toNat : Int) == 40) = false := by rw [HB]; exact u8_ne (b := 40) h4
              have q2 : (((bs X)[k].toNat : Int) == 43) = false := by rw [HB]; exact u8_ne (b := 43) h5
              have N1 := hid (cntB_no (b := 40) hgx h4)
              have N2 := hid (cntB_no (b := 43) hgx h5)
              clear h4 h5 hgx HB
              go_wp2_with fail
              go_round
              case rel => exact ⟨k + 1, by omega, by go_num, by rw [N1.out], by rw [N2.out]⟩
              case measure => simp [intOf]; omega
        · obtain rfl : k = X.length := by omega
          have e40 : cntB 40 X X.length = xs.length := by have := K40.out; omega
          have e43 : cntB 43 X X.length = (loopsLL xs).length - 1 := by have := K43.out; omega
          have hsz2 : X.length = 2 * xs.length + ((loopsLL xs).length - 1) := by have := KSZ.out; omega
          rw [e40, e43]
          have KL := hid (CL.out A c _ of.rd)
          clear e40 e43 K40 K43 KSZ hc1 hc2
          obtain ⟨P, hP⟩ : ∃ P, (loopsLL xs).length = P + 1 := ⟨(loopsLL xs).length - 1, by omega⟩
          rw [hP, Nat.add_sub_cancel] at hsz2 ⊢
          have HP := hid hP
          have hP7 : P ≤ 7 := by omega
          rw [hsz2] at hsz
          generalize loopsLL xs = LL at *
          go_wp2_with fail
          refine KL.out.mono ?_; rintro e w51 ⟨D, d, rfl, -, b⟩
          rw [HP.out]
          have BE := stepB B22 B22.size b
          go_wp2_with fail
          go_ret
          exact ⟨ret_bool (by first | rfl | (simp; omega)), BE⟩
    · have hok' : mapOkB xs = false := by simpa using hok
      have e0 : shapeT xs = [] := by rw [shapeT, loopsT, loopsLL, if_neg hok]; simp [sortT, Lib.join_nil]
      have CI := hid (fun (A : Option Addr) c W (r : RdA W A xs) => by have := iShapeText_c A c xs W r hx; rw [e0] at this; exact this)
      have CS := hid (fun (A : Option Addr) c W (r : RdA W A xs) => by have := sShapeText_c A c xs W r hx; rw [e0] at this; exact this)
      have CM := hid (fun (A : Option Addr) c W (r : RdA W A xs) => by have := iMapOk_c A c xs W r hx; rw [hok'] at this; exact this)
      have q0 : (bs []).toList.isEmpty = true := by simp [bs]
      clear hok hok' e0
      go_wp2_with fail
      refine (CI.out A c _ of.rd).mono ?_
      rintro e w21 ⟨rfl, b⟩
      have B21 := stepB B1 B1.size b
      replace of := of.below b
      clear b
      go_wp2_with fail
      refine (CS.out A c _ of.rd).mono ?_
      rintro e w22 ⟨rfl, b⟩
      have B22 := stepB B21 B21.size b
      replace of := of.below b
      clear b
      go_wp2_with fail
      refine (CM.out A c _ of.rd).mono ?_
      rintro e w22' ⟨rfl, rfl⟩
      go_wp2_with fail
      refine (alive_c _).mono ?_
      rintro e w23 ⟨rfl, b⟩
      have B23 := stepB B22 B22.size b
      replace of := of.below b
      clear b
      go_wp2_with fail
      go_ret
      exact ⟨rfl, B23⟩


end Go.Proofs.Ytjipecfoiddkjaa
