/- The walk of the law FnWithOk. -/
import Derived.Test.YtenmgiocbdabdaaS13
import Derived.Test.YtenmgiocbdabdaaD6
import Derived.Test.YtenmgiocbdabdaaM4
import Derived.Test.YtenmgiocbdabdaaM5
namespace Go.Proofs.Ytenmgiocbdabdaa
open Go.RowKit
set_option linter.unusedVariables false

theorem withB_symm (f g : List Int) : withB f g = withB g f := by
  unfold withB
  by_cases h : behindL f g = behindL g f
  · rw [h]
  · rw [decide_eq_false (fun e => h e.2), decide_eq_false (fun e => h e.2.symm)]
theorem withB_mk {f g : List Int} (h1 : behindL f g ≠ []) (h2 : behindL f g = behindL g f) : withB f g = true := decide_eq_true ⟨h1, h2⟩
theorem withB_pw {f : List Int} (hf : Good f) (m : Nat) : withB f (pw f m) = true := by
  have e1 : behindL f (pw f m) = pw f (m + 1) := by
    have := behind_pw hf 1 m
    rwa [pw_one hf] at this
  have e2 : behindL (pw f m) f = pw f (1 + m) := by
    have := behind_pw hf m 1
    rwa [pw_one hf] at this
  refine withB_mk (by rw [e1]; exact pw_ne hf _) (by rw [e1, e2, Nat.add_comm])
theorem withB_parts {f g : List Int} (h : withB f g = true) : Good f ∧ Good g ∧ f.length = g.length ∧ ∀ k, k < f.length → ap g (ap f k) = ap f (ap g k) := by
  have h' := of_decide_eq_true h
  obtain ⟨h1, h2, h3⟩ := behindL_ne h'.1
  have e := h'.2
  rw [behindL_good (good_of h1) (good_of h2) h3, behindL_good (good_of h2) (good_of h1) h3.symm, ← h3] at e
  exact ⟨good_of h1, good_of h2, h3, mk_eq_iff.1 e⟩
theorem withB_both {f g : List Int} (h : withB f g = true) : withB (behindL f g) f = true ∧ withB (behindL f g) g = true := by
  obtain ⟨hf, hg, hl, hc⟩ := withB_parts h
  obtain ⟨hb, hbl⟩ := good_behind hf hg hl
  have hap : ∀ k, k < f.length → ap (behindL f g) k = ap g (ap f k) := fun k hk => by rw [behindL_good hf hg hl, ap_mk hk]
  have hne : ∀ x y : List Int, Good x → Good y → x.length = y.length → behindL x y ≠ [] := fun x y hx hy hxy e => by
    have := (good_behind hx hy hxy).2
    have h1 := hx.1
    rw [e] at this
    simp at this
    omega
  refine ⟨withB_mk (hne _ _ hb hf hbl) ?_, withB_mk (hne _ _ hb hg (by omega)) ?_⟩
  · rw [behindL_good hb hf hbl, behindL_good hf hb hbl.symm, hbl]
    refine mk_congr fun k hk => ?_
    have hk2 := hf.ap_lt hk
    rw [hap k hk, hap _ hk2, hc _ hk2]
  · rw [behindL_good hb hg (by omega), behindL_good hg hb (by omega), hbl, ← hl]
    refine mk_congr fun k hk => ?_
    have hk2 : ap g k < f.length := by rw [hl]; exact hg.ap_lt (by omega)
    rw [hap k hk, hap _ hk2, ← hc k hk]

set_option maxHeartbeats 2000000 in
theorem FnWithOk_w (a : Option Addr) (len cap : Nat) (zs : List Int) (w : World) (h : RowIn .u8 w a len cap zs) :
    Calls Try.prog 12 #[.slice a len cap] w fun e w' => e = .returned (.bool true) ∧ Below w.heap.size w w' := by
  have hcap := h.cap
  unfold maxLen at hcap
  by_cases hbig : 1048576 < len
  · clear h
    go_enter Try.func12, Try.ntmps12
    go_wp2_with fail
    go_ret
    exact ⟨rfl, Below.refl _ _⟩
  · have hd := DrawWithOk_c a len cap zs w h (by omega)
    clear h
    go_enter Try.func12, Try.ntmps12
    go_wp2_with fail
    refine hd.mono ?_
    rintro e w1 ⟨xs, ys, A, B, c, c', hx8, hy8, rfl, of, og, B1⟩
    clear hd
    have hx : xs.length ≤ 1048577 := by omega
    have hy : ys.length ≤ 1048577 := by omega
    have hxs : xs.length < 9 := by omega
    have CI := hid (fun (A B : Option Addr) c d W (r : RdA W A xs) (s : RdA W B ys) => iWithOk_c A B c d xs ys W r s hx hy)
    have CS := hid (fun (A B : Option Addr) c d W (r : RdA W A xs) (s : RdA W B ys) => sWithOk_c A B c d xs ys W r s hx hy)
    have CR := hid (fun (A B : Option Addr) c d W (r : RdA W A ys) (s : RdA W B xs) => by have := iWithOk_c A B c d ys xs W r s hy hx; rw [withB_symm ys xs] at this; exact this)
    by_cases hf : mapOkB xs = true
    · have gf := good_of hf
      have h7 := gf.1.2
      have CM := hid (fun (A : Option Addr) c W (r : RdA W A xs) => by have := sMapOk_c A c xs W r hx; rw [hf] at this; exact this)
      have CB := hid (fun (A B : Option Addr) c d W (r : RdA W A xs) (s : RdA W B ys) => iBehindOf_c A B c d xs ys W r s hx hy)
      have CW := hid (power_at gf 3 3 rfl (by omega))
      have HLp := hid (show ∀ m, (pw xs m).length ≤ 1048577 from fun m => by rw [pw_len]; omega)
      have CP := hid (fun m (A B : Option Addr) c d W (r : RdA W A xs) (s : RdA W B (pw xs m)) => by have := iWithOk_c A B c d xs (pw xs m) W r s hx (HLp.out m); rw [withB_pw gf] at this; exact this)
      have HS := hid (pw_zero gf)
      by_cases hok : withB xs ys = true
      · have HLb := hid (show (behindL xs ys).length ≤ 1048577 from behindL_len _ _ hx)
        have C1 := hid (fun (A B : Option Addr) c d W (r : RdA W A (behindL xs ys)) (s : RdA W B xs) => by have := iWithOk_c A B c d (behindL xs ys) xs W r s HLb.out hx; rw [(withB_both hok).1] at this; exact this)
        have C2 := hid (fun (A B : Option Addr) c d W (r : RdA W A (behindL xs ys)) (s : RdA W B ys) => by have := iWithOk_c A B c d (behindL xs ys) ys W r s HLb.out hy; rw [(withB_both hok).2] at this; exact this)
        rw [hok] at CI CS CR
        clear hok hf gf
        generalize behindL xs ys = L at *
        go_wp2_with fail
        refine (CI.out A B c c' _ of.rd og.rd).mono ?_
        rintro e w21 ⟨rfl, b⟩
        have B21 := stepB B1 B1.size b
        replace of := of.below b
        replace og := og.below b
        clear b
        go_wp2_with fail
        refine (CS.out A B c c' _ of.rd og.rd).mono ?_
        rintro e w22 ⟨rfl, b⟩
        have B22 := stepB B21 B21.size b
        replace of := of.below b
        replace og := og.below b
        clear b
        go_wp2_with fail
        refine (CR.out B A c' c _ og.rd of.rd).mono ?_
        rintro e w23 ⟨rfl, b⟩
        have B23 := stepB B22 B22.size b
        replace of := of.below b
        replace og := og.below b
        clear b
        go_wp2_with fail
        refine (CM.out A c _ of.rd).mono ?_
        rintro e w23' ⟨rfl, rfl⟩
        go_wp2_with fail
        refine (CB.out A B c c' _ of.rd og.rd).mono ?_
        rintro e w24 ⟨Ab, cb, rfl, ob, b, -⟩
        have B24 := stepB B23 B23.size b
        replace of := of.below b
        replace og := og.below b
        clear b
        go_wp2_with fail
        refine (CW.out A c _ of.rd).mono ?_
        rintro e w25 ⟨Ap, cp, rfl, op, b⟩
        have B25 := stepB B24 B24.size b
        replace of := of.below b
        replace og := og.below b
        replace ob := ob.below b
        clear b
        go_wp2_with fail
        refine (CP.out 3 A Ap c cp _ of.rd op.rd).mono ?_
        rintro e w26 ⟨rfl, b⟩
        have B26 := stepB B25 B25.size b
        replace of := of.below b
        replace og := og.below b
        replace ob := ob.below b
        replace op := op.below b
        clear b
        clear op
        go_wp2_with fail
        refine (iSameOf_c xs.length _).mono ?_
        rintro e w27 ⟨As, cs, rfl, os, b, -⟩
        have B27 := stepB B26 B26.size b
        replace of := of.below b
        replace og := og.below b
        replace ob := ob.below b
        clear b
        rw [← HS.out] at os ⊢
        go_wp2_with fail
        refine (CP.out 0 A As c cs _ of.rd os.rd).mono ?_
        rintro e w28 ⟨rfl, b⟩
        have B28 := stepB B27 B27.size b
        replace of := of.below b
        replace og := og.below b
        replace ob := ob.below b
        replace os := os.below b
        clear b
        clear os
        go_wp2_with fail
        refine (C1.out Ab A cb c _ ob.rd of.rd).mono ?_
        rintro e w29 ⟨rfl, b⟩
        have B29 := stepB B28 B28.size b
        replace of := of.below b
        replace og := og.below b
        replace ob := ob.below b
        clear b
        go_wp2_with fail
        refine (C2.out Ab B cb c' _ ob.rd og.rd).mono ?_
        rintro e w30 ⟨rfl, b⟩
        have B30 := stepB B29 B29.size b
        replace of := of.below b
        replace og := og.below b
        replace ob := ob.below b
        clear b
        go_wp2_with fail
        go_ret
        exact ⟨rfl, B30⟩
      · rw [show withB xs ys = false by simpa using hok] at CI CS CR
        clear hok hf gf
        generalize behindL xs ys = L at *
        go_wp2_with fail
        refine (CI.out A B c c' _ of.rd og.rd).mono ?_
        rintro e w21 ⟨rfl, b⟩
        have B21 := stepB B1 B1.size b
        replace of := of.below b
        replace og := og.below b
        clear b
        go_wp2_with fail
        refine (CS.out A B c c' _ of.rd og.rd).mono ?_
        rintro e w22 ⟨rfl, b⟩
        have B22 := stepB B21 B21.size b
        replace of := of.below b
        replace og := og.below b
        clear b
        go_wp2_with fail
        refine (CR.out B A c' c _ og.rd of.rd).mono ?_
        rintro e w23 ⟨rfl, b⟩
        have B23 := stepB B22 B22.size b
        replace of := of.below b
        replace og := og.below b
        clear b
        go_wp2_with fail
        refine (CM.out A c _ of.rd).mono ?_
        rintro e w23' ⟨rfl, rfl⟩
        go_wp2_with fail
        refine (CB.out A B c c' _ of.rd og.rd).mono ?_
        rintro e w24 ⟨Ab, cb, rfl, ob, b, -⟩
        have B24 := stepB B23 B23.size b
        replace of := of.below b
        replace og := og.below b
        clear b
        go_wp2_with fail
        refine (CW.out A c _ of.rd).mono ?_
        rintro e w25 ⟨Ap, cp, rfl, op, b⟩
        have B25 := stepB B24 B24.size b
        replace of := of.below b
        replace og := og.below b
        replace ob := ob.below b
        clear b
        go_wp2_with fail
        refine (CP.out 3 A Ap c cp _ of.rd op.rd).mono ?_
        rintro e w26 ⟨rfl, b⟩
        have B26 := stepB B25 B25.size b
        replace of := of.below b
        replace og := og.below b
        replace ob := ob.below b
        replace op := op.below b
        clear b
        clear op
        go_wp2_with fail
        refine (iSameOf_c xs.length _).mono ?_
        rintro e w27 ⟨As, cs, rfl, os, b, -⟩
        have B27 := stepB B26 B26.size b
        replace of := of.below b
        replace og := og.below b
        replace ob := ob.below b
        clear b
        rw [← HS.out] at os ⊢
        go_wp2_with fail
        refine (CP.out 0 A As c cs _ of.rd os.rd).mono ?_
        rintro e w28 ⟨rfl, b⟩
        have B28 := stepB B27 B27.size b
        replace of := of.below b
        replace og := og.below b
        replace ob := ob.below b
        replace os := os.below b
        clear b
        clear os
        go_wp2_with fail
        go_ret
        exact ⟨rfl, B28⟩
    · have hno : withB xs ys = false := by
        rcases e : withB xs ys with _ | _
        · rfl
        · exact absurd (ok_of (withB_parts e).1) hf
      have hf' : mapOkB xs = false := by simpa using hf
      have CM := hid (fun (A : Option Addr) c W (r : RdA W A xs) => by have := sMapOk_c A c xs W r hx; rw [hf'] at this; exact this)
      rw [hno] at CI CS CR
      clear hno hf hf'
      go_wp2_with fail
      refine (CI.out A B c c' _ of.rd og.rd).mono ?_
      rintro e w21 ⟨rfl, b⟩
      have B21 := stepB B1 B1.size b
      replace of := of.below b
      replace og := og.below b
      clear b
      go_wp2_with fail
      refine (CS.out A B c c' _ of.rd og.rd).mono ?_
      rintro e w22 ⟨rfl, b⟩
      have B22 := stepB B21 B21.size b
      replace of := of.below b
      replace og := og.below b
      clear b
      go_wp2_with fail
      refine (CR.out B A c' c _ og.rd of.rd).mono ?_
      rintro e w23 ⟨rfl, b⟩
      have B23 := stepB B22 B22.size b
      replace of := of.below b
      replace og := og.below b
      clear b
      go_wp2_with fail
      refine (CM.out A c _ of.rd).mono ?_
      rintro e w23' ⟨rfl, rfl⟩
      clear of
      clear og
      go_wp2_with fail
      refine (alive_c _).mono ?_
      rintro e w24 ⟨rfl, b⟩
      have B24 := stepB B23 B23.size b
      clear b
      go_wp2_with fail
      go_ret
      exact ⟨rfl, B24⟩

end Go.Proofs.Ytenmgiocbdabdaa
