/- The walk of the law FnNamedOf. -/
import Derived.Test.YtjipecfoiddkjaaN1
import Derived.Test.YtjipecfoiddkjaaX10
import Derived.Test.YtjipecfoiddkjaaD7
import Derived.Test.YtjipecfoiddkjaaM4
import Derived.Test.YtjipecfoiddkjaaM5
namespace Go.Proofs.Ytjipecfoiddkjaa
open Go.RowKit
set_option linter.unusedVariables false

theorem sameV_ren {f g p : List Int} (R : Ren f g p) : sameV f g = true := by
  unfold sameV
  rw [ok_of R.hf, ok_of R.hg, R.shapeT]
  simp
theorem Ren.vals {f g p : List Int} (R : Ren f g p) {k : Nat} (hk : k < f.length) : tailV g (nth p k) = tailV f k ∧ loopV g (nth p k) = loopV f k := by
  have h1 : nth p k = (ap p k : Int) := R.hp.nth_ap (by rw [R.lp]; exact hk)
  have h2 : thB g (ap p k : Int) = true := thB_iff.2 ⟨R.hg, by omega, by have := R.plt hk; omega⟩
  have h3 : thB f (k : Int) = true := thB_iff.2 ⟨R.hf, by omega, by omega⟩
  rw [h1, tailV, tailV, loopV, loopV, if_pos h2, if_pos h3, if_pos h2, if_pos h3, Int.toNat_natCast, Int.toNat_natCast, (R.tail_loop hk).1, (R.tail_loop hk).2]
  exact ⟨rfl, rfl⟩

set_option maxHeartbeats 4000000 in
theorem FnNamedOf_w (a : Option Addr) (len cap : Nat) (zs : List Int) (w : World) (h : RowIn .u8 w a len cap zs) :
    Calls Try.prog 3 #[.slice a len cap] w fun e w' => e = .returned (.bool true) ∧ Below w.heap.size w w' := by
  have hcap := h.cap
  unfold maxLen at hcap
  by_cases hbig : 1048576 < len
  · clear h
    go_enter Try.func3, Try.ntmps3
    go_wp2_with fail
    go_ret
    exact ⟨rfl, Below.refl _ _⟩
  · have hd := DrawNamedOf_c a len cap zs w h (by omega)
    clear h
    go_enter Try.func3, Try.ntmps3
    go_wp2_with fail
    refine hd.mono ?_
    rintro e w1 ⟨xs, ys, A, B, c, d, hx8, hy8, rfl, of, og, B1⟩
    clear hd
    have hx : xs.length ≤ 1048577 := by omega
    have hy : ys.length ≤ 1048577 := by omega
    have CI := hid (fun (A B : Option Addr) c d W (r : RdA W A xs) (s : RdA W B ys) => iNamedOf_c A B c d xs ys W r s hx hy)
    have CS := hid (fun (A B : Option Addr) c d W (r : RdA W A xs) (s : RdA W B ys) => sNamedOf_c A B c d xs ys W r s hx hy)
    have HG7 := named_len xs ys hx
    by_cases hok : mapOkB xs = true ∧ turnedB ys = true ∧ xs.length = ys.length
    · have R := Ren.of (good_of hok.1) hok.2.1 hok.2.2
      have hl1 := hid hok.2.2
      have hl2 := hid R.lg
      have h1 := R.hf.1.1
      have hG1 : 1 ≤ (namedL xs ys).length := R.hg.1.1
      have hT7 : (turnedL ys).length ≤ 1048577 := by rw [(turned_turned hok.2.1).2.1]; exact hy
      have CT := hid (fun k (hk : k < xs.length) (A : Option Addr) c W (r : RdA W A (namedL xs ys)) => by have := iTailOf_c A c _ (nth ys k) W r HG7; rw [(R.vals hk).1] at this; exact this)
      have CL := hid (fun k (hk : k < xs.length) (A : Option Addr) c W (r : RdA W A (namedL xs ys)) => by have := iLoopLong_c A c _ (nth ys k) W r HG7; rw [(R.vals hk).2] at this; exact this)
      have CTf := hid (fun (k : Nat) (A : Option Addr) c W (r : RdA W A xs) => iTailOf_c A c xs k W r hx)
      have CLf := hid (fun (k : Nat) (A : Option Addr) c W (r : RdA W A xs) => iLoopLong_c A c xs k W r hx)
      have CB := hid (fun (A : Option Addr) c W (r : RdA W A ys) => by have := iTurnedOf_c A c ys W r hy; rw [hok.2.1] at this; exact this)
      have CH := hid (fun (A B : Option Addr) c d W (r : RdA W A xs) (s : RdA W B (namedL xs ys)) => by have := iSameShape_c A B c d xs (namedL xs ys) W r s hx HG7; rw [sameV_ren R] at this; exact this)
      have CN := hid (fun (A B : Option Addr) c d W (r : RdA W A (namedL xs ys)) (s : RdA W B (turnedL ys)) => by have := iNamedOf_c A B c d (namedL xs ys) (turnedL ys) W r s HG7 hT7; rw [R.back.named] at this; exact this)
      clear R hok
      generalize namedL xs ys = G at *
      generalize turnedL ys = T at *
      have q0 : ((G.length : Int) == 0) = false := beq_eq_false_iff_ne.2 (by omega)
      go_wp2_with fail
      refine (CI.out A B c d _ of.rd og.rd).mono ?_
      rintro e w2 ⟨D, dd, rfl, oG, b, -⟩
      have B2 := stepB B1 B1.size b
      replace of := of.below b
      replace og := og.below b
      have oG : Own w.heap.size w2 (.slice D G.length dd) G := oG.mono B1.size
      clear b B1
      go_wp2_with fail
      refine (CS.out A B c d _ of.rd og.rd).mono ?_
      rintro e w3 ⟨E, de, rfl, oE, b⟩
      have B3 := stepB B2 B2.size b
      replace of := of.below b
      replace og := og.below b
      replace oG := oG.below b
      clear b B2
      go_wp2_with fail
      refine (sameInts_t D E dd de G G _ oG.rd oE.rd HG7 HG7 rfl).mono ?_
      rintro e w4 ⟨rfl, b⟩
      have B4 := stepB B3 B3.size b
      replace of := of.below b
      replace og := og.below b
      replace oG := oG.below b
      clear b B3 oE
      obtain ⟨gB, cB, e9, -, -⟩ := og.pos (by have := hl1.out; omega)
      cases e9
      go_wp2_with fail
      go_loopw [6] (fun i wr => ∃ k : Nat, k ≤ xs.length ∧ i = .int .i64 k ∧ Own w.heap.size wr (.slice A xs.length c) xs ∧ Own w.heap.size wr (.slice (some ⟨gB, 0, none⟩) ys.length d) ys ∧ Own w.heap.size wr (.slice D G.length dd) G ∧ Below w.heap.size w wr) (fun i _ => xs.length - (intOf i).toNat)
      case atStart => exact ⟨0, Nat.zero_le _, rfl, of, og, oG, B4⟩
      case round =>
        clear of og oG B4
        obtain ⟨k, hk, rfl, of, og, oG, hb⟩ := hrel
        by_cases hlt : k < xs.length
        · have hky : k < ys.length := by have := hl1.out; omega
          have hc := og.cell hky
          have k1 := hid (CT.out k hlt D dd _ oG.rd)
          go_wp2_with fail
          refine k1.out.mono ?_
          rintro e w5 ⟨rfl, b⟩
          clear k1
          have hb5 := stepB hb hb.size b
          replace of := of.below b
          replace og := og.below b
          replace oG := oG.below b
          clear b hb
          have hc5 := og.cell hky
          go_wp2_with fail
          refine (CTf.out k A c _ of.rd).mono ?_
          rintro e w6 ⟨rfl, b⟩
          have hb6 := stepB hb5 hb5.size b
          replace of := of.below b
          replace og := og.below b
          replace oG := oG.below b
          clear b hb5 hc5
          have hc6 := og.cell hky
          have k3 := hid (CL.out k hlt D dd _ oG.rd)
          go_wp2_with fail
          refine k3.out.mono ?_
          rintro e w7 ⟨rfl, b⟩
          clear k3
          have hb7 := stepB hb6 hb6.size b
          replace of := of.below b
          replace og := og.below b
          replace oG := oG.below b
          clear b hb6 hc6
          go_wp2_with fail
          refine (CLf.out k A c _ of.rd).mono ?_
          rintro e w8 ⟨rfl, b⟩
          have hb8 := stepB hb7 hb7.size b
          replace of := of.below b
          replace og := og.below b
          replace oG := oG.below b
          clear b hb7
          go_wp2_with fail
          go_roundw
          case rel => exact ⟨k + 1, by omega, by go_num, of, og, oG, hb8⟩
          case measure => simp [intOf]; omega
        · obtain rfl : k = xs.length := by omega
          go_wp2_with fail
          refine (CB.out _ d _ og.rd).mono ?_
          rintro e w5 ⟨H, dh, rfl, oH, b, -⟩
          have hb5 := stepB hb hb.size b
          replace of := of.below b
          replace oG := oG.below b
          clear b hb
          go_wp2_with fail
          refine (CH.out A D c dd _ of.rd oG.rd).mono ?_
          rintro e w6 ⟨rfl, b⟩
          have hb6 := stepB hb5 hb5.size b
          replace of := of.below b
          replace oG := oG.below b
          replace oH := oH.below b
          clear b hb5
          go_wp2_with fail
          refine (CN.out D H dd dh _ oG.rd oH.rd).mono ?_
          rintro e w7 ⟨J, dj, rfl, oJ, b, -⟩
          have hb7 := stepB hb6 hb6.size b
          replace of := of.below b
          clear b hb6
          go_wp2_with fail
          refine (sameInts_t J A dj c xs xs _ oJ.rd of.rd hx hx rfl).mono ?_
          rintro e w8 ⟨rfl, b⟩
          have hb8 := stepB hb7 hb7.size b
          go_wp2_with fail
          go_ret
          exact ⟨rfl, hb8⟩
    · have e0 : namedL xs ys = [] := named_no hok
      rw [e0] at CI CS
      clear e0 hok HG7
      go_wp2_with fail
      refine (CI.out A B c d _ of.rd og.rd).mono ?_
      rintro e w2 ⟨D, dd, rfl, oG, b, -⟩
      have B2 := stepB B1 B1.size b
      replace of := of.below b
      replace og := og.below b
      clear b B1
      go_wp2_with fail
      refine (CS.out A B c d _ of.rd og.rd).mono ?_
      rintro e w3 ⟨E, de, rfl, oE, b⟩
      have B3 := stepB B2 B2.size b
      replace oG := oG.below b
      clear b B2
      go_wp2_with fail
      refine (sameInts_t D E dd de [] [] _ oG.rd oE.rd (by simp) (by simp) rfl).mono ?_
      rintro e w4 ⟨rfl, b⟩
      have B4 := stepB B3 B3.size b
      clear b B3
      go_wp2_with fail
      refine (alive_c _).mono ?_
      rintro e w5 ⟨rfl, b⟩
      have B5 := stepB B4 B4.size b
      go_wp2_with fail
      go_ret
      exact ⟨rfl, B5⟩

end Go.Proofs.Ytjipecfoiddkjaa
