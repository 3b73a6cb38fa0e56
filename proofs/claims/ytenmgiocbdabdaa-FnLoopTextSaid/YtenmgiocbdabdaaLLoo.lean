/- The walk of the law FnLoopText. -/
import Derived.Test.YtenmgiocbdabdaaY2
import Derived.Test.YtenmgiocbdabdaaY4
import Derived.Test.YtenmgiocbdabdaaX8
import Derived.Test.YtenmgiocbdabdaaX7
import Derived.Test.YtenmgiocbdabdaaM4
import Derived.Test.YtenmgiocbdabdaaM5
import Derived.Deep.RegionWith
namespace Go.Proofs.Ytenmgiocbdabdaa
open Go.RowKit
set_option linter.unusedVariables false

theorem sm_ge (g : Nat → Nat) {k : Nat} : ∀ {n : Nat}, k < n → g k ≤ sm g n
  | 0, h => by omega
  | n + 1, h => by
    rw [sm]
    by_cases e : k = n
    · subst e; omega
    · have := sm_ge g (show k < n by omega); omega
theorem cntL_pos {f : List Int} {n : Nat} (hn : n < f.length) : 1 ≤ cntL f (loopOf f n) f.length := by
  have := sm_ge (fun i => if loopOf f i = loopOf f n then 1 else 0) hn
  rw [if_pos rfl] at this
  exact this
theorem ne_isEmpty {X : Txt} (h : X ≠ []) : (bs X).toList.isEmpty = false := by
  cases X with
  | nil => exact absurd rfl h
  | cons x r => simp [bs]

set_option maxHeartbeats 4000000 in
theorem FnLoopText_w (a : Option Addr) (len cap : Nat) (zs : List Int) (w : World) (h : RowIn .u8 w a len cap zs) :
    Calls Try.prog 29 #[.slice a len cap] w fun e w' => e = .returned (.bool true) ∧ Below w.heap.size w w' := by
  have hcap := h.cap
  unfold maxLen at hcap
  by_cases hbig : 1048576 < len
  · clear h
    go_enter Try.func29, Try.ntmps29
    go_wp2_with fail
    go_ret
    exact ⟨rfl, Below.refl _ _⟩
  · have hd := DrawLoopText_c a len cap zs w h (by omega)
    clear h
    go_enter Try.func29, Try.ntmps29
    go_wp2_with fail
    refine hd.mono ?_
    rintro e w1 ⟨xs, A, c, z, hx8, hz0, hz1, rfl, of, B1⟩
    clear hd
    have hx : xs.length ≤ 1048577 := by omega
    by_cases ht : thB xs z = true
    · obtain ⟨t, rfl, hlt, hf⟩ := th_nat ht
      have h7 := hf.1.2
      have CI := hid (fun (A : Option Addr) c W (r : RdA W A xs) => by have := iLoopText_c A c xs t W r hx; rw [loopTV, if_pos ht, Int.toNat_natCast] at this; exact this)
      have CS := hid (fun (A : Option Addr) c W (r : RdA W A xs) => by have := sLoopText_c A c xs t W r hx; rw [loopTV, if_pos ht, Int.toNat_natCast] at this; exact this)
      have CN := hid (fun (A : Option Addr) c W (r : RdA W A xs) => by have := iLoopText_c A c xs (ap xs t : Nat) W r hx; rw [loopTV, if_pos (th_of hf (hf.ap_lt hlt)), Int.toNat_natCast, loopT_next hf hlt] at this; exact this)
      have CL := hid (fun (A : Option Addr) c W (r : RdA W A xs) => by have := iLotsOf_c A c xs W r hx; rw [lotsL, if_pos (ok_of hf)] at this; exact this)
      have CO := hid (fun (A : Option Addr) c W (r : RdA W A xs) => by have := iLoopOf_c A c xs (t : Int) W r hx; rw [lotV_yes ht] at this; exact this)
      have HSZ := hid (show (loopT xs t).length = 2 * cntL xs (loopOf xs t) xs.length by rw [loop_mu (μ := List.length) (fun a b => List.length_append) hf hlt, Nat.mul_comm]; rfl)
      have q0 : (bs (loopT xs t)).toList.isEmpty = false := ne_isEmpty (fun e => by
        have h1 := HSZ.out
        have h2 := cntL_pos hlt
        rw [e, List.length_nil] at h1
        omega)
      have HAT := hid (fun k (h : k < xs.length) => lotN_at h)
      have HLN := hid (lotN_len xs xs.length)
      have HNX := hid (show nth xs t = (ap xs t : Nat) from hf.nth_ap hlt)
      clear ht hf
      generalize loopT xs t = X at *
      generalize ap xs t = nx at *
      generalize loopOf xs t = lo at *
      go_wp2_with fail
      refine (CI.out A c _ of.rd).mono ?_
      rintro e w21 ⟨rfl, b⟩
      have B21 := stepB B1 B1.size b
      replace of := of.below b
      clear b
      go_wp2_with fail
      refine (CS.out A c _ of.rd).mono ?_
      rintro e w22 ⟨rfl, b⟩
      have B22 := stepB B21 B21.size b
      replace of := of.below b
      clear b
      go_wp2_with fail
      refine (CL.out A c _ of.rd).mono ?_
      rintro e w23 ⟨Al, cl, rfl, ol, b⟩
      have B23 := stepB B22 B22.size b
      replace of := of.below b
      clear b
      rw [HLN.out] at ol ⊢
      go_wp2_with fail
      have HRD := hid of.rd
      have HRL := hid ol.rd
      go_loopw [6, 8] (fun n i wr => ∃ k : Nat, k ≤ xs.length ∧ i = .int .i64 k ∧ n = .int .i64 (cntL xs lo k : Nat) ∧ Below w23.heap.size w23 wr) (fun _ i _ => xs.length - (intOf i).toNat)
      case atStart => exact ⟨0, Nat.zero_le _, rfl, rfl, Below.refl _ _⟩
      case round =>
        obtain ⟨k, hk, rfl, rfl, hb⟩ := hrel
        have hcl := cntL_le xs lo k
        by_cases hlk : k < xs.length
        · obtain ⟨ad, rfl, hc⟩ := (HRL.out.below hb) k (by rw [HLN.out]; exact hlk)
          rw [HAT.out k hlk] at hc
          have HB := hid hb
          have HC := hid hc
          have KO := hid (fun W (h : Below wr.heap.size wr W) => CO.out A c W ((HRD.out.below HB.out).below h))
          have hd : Below wr.heap.size wr wr.drew := (Below.refl _ _).drew
          have hlad := lt_of_cell hc
          by_cases he : loopOf xs k = lo
          · have HN := hid (cntL_yes he)
            have q1 : ((loopOf xs k : Int) == (lo : Int)) = true := by rw [he]; simp
            have q2 : loopOf xs k = lo := he
            clear he
            generalize loopOf xs k = m at *
            subst q2
            generalize cntL xs m k = M at *
            go_wp2_with fail
            go_region_with (go_at_call 106; refine (KO.out _ (by assumption)).mono ?_; rintro e w8 ⟨rfl, b8⟩; have hd8 : Below wr.heap.size wr w8 := Below.trans (by assumption) (b8.mono (Below.size (by assumption))); have hc8 := (hd8.cell hlad).trans hc)
            all_goals go_wp2_with fail
            all_goals exact ⟨⟨k + 1, by omega, by go_num, by rw [HN.out]; go_num, hb.trans (hd8.mono hb.size)⟩, by simp [intOf]; omega⟩
          · have HN := hid (cntL_no he)
            have q1 : ((loopOf xs k : Int) == (lo : Int)) = false := by simp; omega
            have q2 : ¬ loopOf xs k = lo := he
            have q3 : (loopOf xs k == lo) = false := by simpa using he
            clear he
            generalize loopOf xs k = m at *
            generalize cntL xs lo k = M at *
            go_wp2_with fail
            go_region_with (go_at_call 106; refine (KO.out _ (by assumption)).mono ?_; rintro e w8 ⟨rfl, b8⟩; have hd8 : Below wr.heap.size wr w8 := Below.trans (by assumption) (b8.mono (Below.size (by assumption))); have hc8 := (hd8.cell hlad).trans hc)
            all_goals go_wp2_with fail
            all_goals exact ⟨⟨k + 1, by omega, by go_num, by rw [HN.out], hb.trans (hd8.mono hb.size)⟩, by simp [intOf]; omega⟩
        · obtain rfl : k = xs.length := by omega
          have BB := B23.trans (hb.mono B23.size)
          obtain ⟨N, hN⟩ : ∃ N, cntL xs lo xs.length = N := ⟨_, rfl⟩
          rw [hN] at hcl HSZ ⊢
          have hsz : (bs X).size = 2 * N := by rw [bs_size, HSZ.out]
          clear hN HSZ
          have hN7 : N ≤ 7 := by omega
          have KN := hid (CN.out A c wr (HRD.out.below hb))
          obtain ⟨ad, rfl, hct⟩ := (HRD.out.below hb) t hlt
          rw [HNX.out] at hct
          go_wp2_with fail
          refine KN.out.mono ?_; rintro e w51 ⟨rfl, b⟩
          have BE := stepB BB BB.size b
          go_wp2_with fail
          go_ret
          exact ⟨rfl, BE⟩
    · have ht' : loopTV xs z = [] := if_neg ht
      have CI := hid (fun (A : Option Addr) c W (r : RdA W A xs) => by have := iLoopText_c A c xs z W r hx; rw [ht'] at this; exact this)
      have CS := hid (fun (A : Option Addr) c W (r : RdA W A xs) => by have := sLoopText_c A c xs z W r hx; rw [ht'] at this; exact this)
      have q0 : (bs []).toList.isEmpty = true := by simp [bs]
      clear ht ht'
      go_wp2_with fail
      refine (CI.out A c _ of.rd).mono ?_
      rintro e w21 ⟨rfl, b⟩
      have B21 := stepB B1 B1.size b
      replace of := of.below b
      clear b
      go_wp2_with fail
      refine (CS.out A c _ of.rd).mono ?_
      rintro e w22 ⟨rfl, b⟩
      have B22 := stepB B21 B21.size b
      replace of := of.below b
      clear b
      go_wp2_with fail
      refine (alive_c _).mono ?_
      rintro e w23 ⟨rfl, b⟩
      have B23 := stepB B22 B22.size b
      replace of := of.below b
      clear b
      go_wp2_with fail
      go_ret
      exact ⟨rfl, B23⟩

end Go.Proofs.Ytenmgiocbdabdaa
