/- The walk of the law FnTurnRootOf. -/
import Derived.Test.YtenmgiocbdabdaaS13
import Derived.Test.YtenmgiocbdabdaaS12
import Derived.Test.YtenmgiocbdabdaaD6
import Derived.Test.YtenmgiocbdabdaaM4
import Derived.Test.YtenmgiocbdabdaaM5
namespace Go.Proofs.Ytenmgiocbdabdaa
open Go.RowKit
set_option linter.unusedVariables false

set_option maxHeartbeats 1000000 in
theorem FnTurnRootOf_w (a : Option Addr) (len cap : Nat) (zs : List Int) (w : World) (h : RowIn .u8 w a len cap zs) :
    Calls Try.prog 24 #[.slice a len cap] w fun e w' => e = .returned (.bool true) ∧ Below w.heap.size w w' := by
  have hcap := h.cap
  unfold maxLen at hcap
  by_cases hbig : 1048576 < len
  · clear h
    go_enter Try.func24, Try.ntmps24
    go_wp2_with fail
    go_ret
    exact ⟨rfl, Below.refl _ _⟩
  · have hd := DrawTurnRootOf_c a len cap zs w h (by omega)
    clear h
    go_enter Try.func24, Try.ntmps24
    go_wp2_with fail
    refine hd.mono ?_
    rintro e w1 ⟨xs, A, c, hx8, rfl, of, B1⟩
    clear hd
    have hx : xs.length ≤ 1048577 := by omega
    have HLr := hid (rootL_len xs hx)
    by_cases ht : rootOkB xs = true
    · obtain ⟨hg, hl, hb, htu⟩ := root_root ht
      have CI := hid (fun (A : Option Addr) c W (r : RdA W A xs) => by have := iTurnRootOf_c A c xs W r hx; rw [ht] at this; exact this)
      have CS := hid (fun (A : Option Addr) c W (r : RdA W A xs) => by have := sTurnRootOf_c A c xs W r hx; rw [ht] at this; exact this)
      have CT := hid (fun (A : Option Addr) c W (r : RdA W A (rootL xs)) => by have := iTurnedOf_c A c (rootL xs) W r HLr.out; rw [htu] at this; exact this)
      have CB := hid (fun (A B : Option Addr) c d W (r : RdA W A (rootL xs)) (s : RdA W B (rootL xs)) => by have := iBehindOf_c A B c d (rootL xs) (rootL xs) W r s HLr.out HLr.out; rw [hb] at this; exact this)
      clear ht hg hl hb htu
      generalize rootL xs = L at *
      go_wp2_with fail
      refine (CI.out A c _ of.rd).mono ?_
      rintro e w21 ⟨Ag, cg, rfl, og, b⟩
      have B21 := stepB B1 B1.size b
      replace of := of.below b
      clear b
      go_wp2_with fail
      refine (CS.out A c _ of.rd).mono ?_
      rintro e w22 ⟨As, cs, rfl, os, b⟩
      have B22 := stepB B21 B21.size b
      replace of := of.below b
      replace og := og.below b
      clear b
      go_wp2_with fail
      refine (sameInts_t Ag As cg cs L L _ og.rd os.rd HLr.out HLr.out rfl).mono ?_
      rintro e w23 ⟨rfl, b⟩
      have B23 := stepB B22 B22.size b
      replace of := of.below b
      replace og := og.below b
      replace os := os.below b
      clear b
      clear os
      go_wp2_with fail
      refine (CT.out Ag cg _ og.rd).mono ?_
      rintro e w24 ⟨At, ct, rfl, ot, b, -⟩
      have B24 := stepB B23 B23.size b
      replace of := of.below b
      replace og := og.below b
      clear b
      clear ot
      go_wp2_with fail
      refine (CB.out Ag Ag cg cg _ og.rd og.rd).mono ?_
      rintro e w25 ⟨Ab, cb, rfl, ob, b, -⟩
      have B25 := stepB B24 B24.size b
      replace of := of.below b
      replace og := og.below b
      clear b
      go_wp2_with fail
      refine (sameInts_t Ab A cb c xs xs _ ob.rd of.rd hx hx rfl).mono ?_
      rintro e w26 ⟨rfl, b⟩
      have B26 := stepB B25 B25.size b
      replace of := of.below b
      replace og := og.below b
      replace ob := ob.below b
      clear b
      go_wp2_with fail
      go_ret
      exact ⟨rfl, B26⟩
    · have ht' : rootOkB xs = false := by simpa using ht
      have e1 : rootL xs = [] := if_neg ht
      have CI := hid (fun (A : Option Addr) c W (r : RdA W A xs) => by have := iTurnRootOf_c A c xs W r hx; rw [ht', e1] at this; exact this)
      have CS := hid (fun (A : Option Addr) c W (r : RdA W A xs) => by have := sTurnRootOf_c A c xs W r hx; rw [ht', e1] at this; exact this)
      have CK := hid (fun (A : Option Addr) c W (r : RdA W A xs) => by have := iTurnRootOk_c A c xs W r hx; rw [ht'] at this; exact this)
      clear e1 ht ht' HLr
      go_wp2_with fail
      refine (CI.out A c _ of.rd).mono ?_
      rintro e w21 ⟨Ag, cg, rfl, og, b⟩
      have B21 := stepB B1 B1.size b
      replace of := of.below b
      clear b
      go_wp2_with fail
      refine (CS.out A c _ of.rd).mono ?_
      rintro e w22 ⟨As, cs, rfl, os, b⟩
      have B22 := stepB B21 B21.size b
      replace of := of.below b
      replace og := og.below b
      clear b
      go_wp2_with fail
      refine (sameInts_t Ag As cg cs [] [] _ og.rd os.rd (by simp) (by simp) rfl).mono ?_
      rintro e w23 ⟨rfl, b⟩
      have B23 := stepB B22 B22.size b
      replace of := of.below b
      replace og := og.below b
      replace os := os.below b
      clear b
      clear os
      clear og
      go_wp2_with fail
      refine (CK.out A c _ of.rd).mono ?_
      rintro e w24 ⟨rfl, b⟩
      have B24 := stepB B23 B23.size b
      replace of := of.below b
      clear b
      go_wp2_with fail
      refine (alive_c _).mono ?_
      rintro e w25 ⟨rfl, b⟩
      have B25 := stepB B24 B24.size b
      replace of := of.below b
      clear b
      go_wp2_with fail
      go_ret
      exact ⟨rfl, B25⟩

end Go.Proofs.Ytenmgiocbdabdaa
