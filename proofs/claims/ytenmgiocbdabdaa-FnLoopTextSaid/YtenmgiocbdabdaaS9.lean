/- Contracts of chapter 4: idempotent maps of the reference; the settled power. -/
import Derived.Test.YtenmgiocbdabdaaS4
import Derived.BigQuiet
import Derived.Deep.QuietTactic
import Derived.OwnWalk
namespace Go.Proofs.Ytenmgiocbdabdaa
open Go.RowKit
set_option linter.unusedVariables false

theorem quiet_same {P : Program} {fn : FuncId} {args : Array Value} {w : World} {n : Nat} {v : Value}
    (h : Calls P fn args (w.drewN n) fun e w' => e = .returned v ∧ w.drewN n = w') : Calls P fn args (w.drewN n) fun e w'' => e = .returned v ∧ ∃ m, w'' = w.drewN m :=
  h.mono fun _ _ ⟨he, hm⟩ => ⟨he, n, hm.symm⟩
theorem Below.drewN' {B : Nat} {a w : World} (h : Below B a w) (n : Nat) : Below B a (w.drewN n) := ⟨h.os, h.tape, h.output, h.size, h.block⟩
theorem idemB_good {f : List Int} (hf : Good f) : idemB f = true ↔ ∀ k, k < f.length → ap f (ap f k) = ap f k := by
  unfold idemB
  rw [ok_of hf, Bool.true_and, decide_eq_true_eq, behindL_good hf hf rfl]
  conv => lhs; rhs; rw [eq_mk hf]
  exact mk_eq_iff
theorem idemB_not {f : List Int} (hf : Good f) {k : Nat} (hk : k < f.length) (h : ap f (ap f k) ≠ ap f k) : idemB f = false := by
  rcases e : idemB f with _ | _
  · rfl
  · exact absurd ((idemB_good hf).1 e k hk) h

set_option maxHeartbeats 1000000 in
theorem sIdempotentOk_c (A : Option Addr) (c : Nat) (f : List Int) (w : World) (hR : RdA w A f) (hn : f.length ≤ 1048577) :
    Calls Try.prog 143 #[.slice A f.length c] w fun e w' => e = .returned (.bool (idemB f)) ∧ Below w.heap.size w w' := by
  have C1 := hid (fun W (hb : Below w.heap.size w W) => sMapOk_c A c f W (hR.below hb) hn)
  by_cases hf : mapOkB f = true
  · rw [hf] at C1
    have HG := hid (good_of hf)
    have h7 := (good_of hf).1.2
    clear hf
    go_enter Try.func143, Try.ntmps143
    go_wp2_with fail
    go_loopw [3] (fun i wr => ∃ k : Nat, k ≤ f.length ∧ i = .int .i64 k ∧ Hid (∀ j, j < k → ap f (ap f j) = ap f j) ∧ Below w.heap.size w wr) (fun i _ => f.length - (intOf i).toNat)
    case atStart => exact ⟨0, Nat.zero_le _, rfl, hid (fun j hj => by omega), Below.refl _ _⟩
    case round =>
      obtain ⟨k, hk, rfl, hall, hb⟩ := hrel
      have K1 := hid (fun n => C1.out (wr.drewN n) (Below.drewN' hb n))
      by_cases hlt : k < f.length
      · obtain ⟨ad, rfl, hc⟩ := (hR.below hb) k hlt
        have hlt2 := HG.out.ap_lt hlt
        rw [HG.out.nth_ap hlt] at hc
        obtain ⟨bd, e9, hc3⟩ := (hR.below hb) (ap f k) hlt2
        rw [HG.out.nth_ap hlt2] at hc3
        cases e9
        have HB := hid hb
        clear hR C1 hb
        by_cases he : ap f (ap f k) = ap f k
        · have q1 : ((ap f (ap f k) : Int) != (ap f k : Int)) = false := by rw [he]; simp
          have q2 : ((ap f (ap f k) : Int) == (ap f k : Int)) = true := by rw [he]; simp
          have HN := hid (show ∀ j, j < k + 1 → ap f (ap f j) = ap f j from fun j hj => by
            rcases Nat.lt_succ_iff_lt_or_eq.1 hj with h | rfl
            · exact hall.out j h
            · exact he)
          clear he hall
          generalize ap f (ap f k) = Y at *
          generalize ap f k = X at *
          go_wp2_with fail
          go_quiet ((go_at_call 51; exact quiet_same (K1.out _)))
          go_wp2_with fail
          go_roundw
          case rel => exact ⟨k + 1, by omega, by go_num, HN, Below.drewN' HB.out _⟩
          case measure => simp [intOf]; omega
        · have q1 : ((ap f (ap f k) : Int) != (ap f k : Int)) = true := by simp; omega
          have q2 : ((ap f (ap f k) : Int) == (ap f k : Int)) = false := by simp; omega
          have HN := hid (idemB_not HG.out hlt he)
          clear he hall
          generalize ap f (ap f k) = Y at *
          generalize ap f k = X at *
          go_wp2_with fail
          go_quiet ((go_at_call 51; exact quiet_same (K1.out _)))
          go_wp2_with fail
          go_ret
          exact ⟨ret_bool HN.out.symm, Below.drewN' HB.out _⟩
      · obtain rfl : k = f.length := by omega
        have HN := hid ((idemB_good HG.out).2 hall.out)
        have k1 := C1.out wr hb
        clear hR C1 hall
        go_wp2_with fail
        refine k1.mono ?_; rintro e w' ⟨rfl, rfl⟩
        go_wp2_with fail
        go_ret
        exact ⟨ret_bool HN.out.symm, hb⟩
  · have HN := hid (show idemB f = false by simp [idemB, hf])
    rw [show mapOkB f = false by simpa using hf] at C1
    have K1 := hid (fun n => C1.out (w.drewN n) (Below.drewN' (Below.refl _ w) n))
    have K0 := hid (C1.out w (Below.refl _ w))
    clear hf hR C1
    by_cases h0 : 0 < f.length
    · go_enter Try.func143, Try.ntmps143
      go_wp2_with fail
      refine wp_loop_rounds 1 ?_
      rw [rounds_succ]
      go_wp2_with fail
      go_quiet ((go_at_call 51; exact quiet_same (K1.out _)))
      go_wp2_with fail
      go_ret
      exact ⟨ret_bool HN.out.symm, Below.drewN' (Below.refl _ w) _⟩
    · have q1 : decide ((0 : Int) < (f.length : Int)) = false := decide_eq_false (by omega)
      have q0 : decide (0 < f.length) = false := decide_eq_false (by omega)
      clear h0
      go_enter Try.func143, Try.ntmps143
      go_wp2_with fail
      refine wp_loop_rounds 1 ?_
      rw [rounds_succ]
      go_wp2_with fail
      refine K0.out.mono ?_; rintro e w' ⟨rfl, rfl⟩
      go_wp2_with fail
      go_ret
      exact ⟨ret_bool HN.out.symm, Below.refl _ w⟩

def settleL (f : List Int) : List Int := if mapOkB f = true then pw f (setN f) else []
def settleV (f : List Int) : Int := if mapOkB f = true then (setN f : Int) else -1
theorem settleL_len (f : List Int) (h : f.length ≤ 1048577) : (settleL f).length ≤ 1048577 := by
  unfold settleL
  split
  · rw [pw_len]; exact h
  · simp
def SetR (w : World) (f : List Int) (e : Ending) (w' : World) : Prop := ∃ A c, e = .returned (.tuple #[.slice A (settleL f).length c, .int .i64 (settleV f), .bool (mapOkB f)]) ∧ Own w.heap.size w' (.slice A (settleL f).length c) (settleL f) ∧ Below w.heap.size w w'
theorem setR_yes {w w' : World} {f : List Int} {A : Option Addr} {n c : Nat} (hf : mapOkB f = true) (ho : Own w.heap.size w' (.slice A n c) (pw f (setN f))) (hb : Below w.heap.size w w') : SetR w f (.returned (.tuple #[.slice A n c, .int .i64 (setN f : Nat), .bool true])) w' := by
  obtain rfl := ho.len
  unfold SetR
  rw [settleL, settleV, if_pos hf, if_pos hf, hf]
  exact ⟨A, c, rfl, ho, hb⟩
theorem setR_no {w w' : World} {f : List Int} {A : Option Addr} {c : Nat} (hf : mapOkB f = false) (ho : Own w.heap.size w' (.slice A 0 c) []) (hb : Below w.heap.size w w') : SetR w f (.returned (.tuple #[.slice A 0 c, .int .i64 (-1), .bool false])) w' := by
  unfold SetR
  rw [settleL, settleV, if_neg (by rw [hf]; simp), if_neg (by rw [hf]; simp), hf]
  exact ⟨A, c, rfl, ho, hb⟩

set_option maxHeartbeats 1000000 in
theorem iSettledOf_c (A : Option Addr) (c : Nat) (f : List Int) (w : World) (hR : RdA w A f) (hn : f.length ≤ 1048577) :
    Calls Try.prog 85 #[.slice A f.length c] w (SetR w f) := by
  have c1 := iMapOk_c A c f w hR hn
  by_cases hf : mapOkB f = true
  · rw [hf] at c1
    have HF := hid hf
    have gf := good_of hf
    have HS := hid (setN_spec gf)
    have HI := hid (idxN_spec gf)
    have hp := perN_bd gf
    have hi7 := HI.out.2.2.1
    have c2 := iPeriodOf_c A c f w hR hn
    rw [periodV_yes gf] at c2
    have C3 := hid (fun W (hb : Below w.heap.size w W) => iIndexOf_c A c f W (hR.below hb) hn)
    rw [HI.out.1] at C3
    have C4 := hid (fun (t : Int) W (hb : Below w.heap.size w W) => iPowerOf_c A c f t W (hR.below hb) hn)
    have HP := hid (fun m (h : m ≤ 1000000) => powL_yes gf h)
    have hs1 := HS.out.2.2.2.2.1
    have H0 := hid (Nat.le_of_dvd HS.out.2.2.2.1 HS.out.2.2.1)
    clear hf hR gf
    generalize idxN f = I at *
    generalize hPd : perN f = P at *
    generalize hSt : setN f = S at *
    have HSt := hid hSt
    clear hPd hSt
    go_enter Try.func85, Try.ntmps85
    go_wp2_with fail
    refine c1.mono ?_; rintro e w' ⟨rfl, rfl⟩
    go_wp2_with fail
    refine c2.mono ?_; rintro e w2 ⟨rfl, b2⟩
    clear c1 c2
    go_wp2_with fail
    go_loopw [6] (fun i wr => ∃ m : Nat, m ≤ S ∧ i = .int .i64 m ∧ Hid (P ∣ m) ∧ Below w.heap.size w wr) (fun i _ => 8 - (intOf i).toNat)
    case atStart => exact ⟨P, H0.out, rfl, hid (Nat.dvd_refl _), b2⟩
    case round =>
      clear b2
      obtain ⟨m, hm, rfl, hd, hb⟩ := hrel
      have k3 := hid (C3.out wr hb)
      by_cases hlt : m < I
      · have HN := hid (show P ∣ m + P from Nat.dvd_add hd.out (Nat.dvd_refl _))
        have hle : m + P ≤ S := by
          have h1 := HS.out.1
          have h2 : P ∣ S - m := Nat.dvd_sub HS.out.2.2.1 hd.out
          have := Nat.le_of_dvd (by omega) h2
          omega
        clear C3
        go_wp2_with fail
        refine k3.out.mono ?_; rintro e w3 ⟨rfl, b3⟩
        go_wp2_with fail
        go_roundw
        case rel => exact ⟨m + P, hle, by rw [Int.natCast_add], HN, hb.trans (b3.mono hb.size)⟩
        case measure => simp [intOf]; omega
      · obtain rfl : m = S := Nat.le_antisymm hm (HS.out.2.2.2.2.2 m (by omega) hd.out)
        have K4 := hid (fun W hb => C4.out (m : Int) W hb)
        rw [HP.out m (by omega)] at K4
        clear C3 C4
        go_wp2_with fail
        refine k3.out.mono ?_; rintro e w3 ⟨rfl, b3⟩
        have b3' := hb.trans (b3.mono hb.size)
        have k4 := hid (K4.out w3 b3')
        clear K4 k3
        go_wp2_with fail
        refine k4.out.mono ?_; rintro e w4 ⟨A4, c4, rfl, o4, b4⟩
        have b4' := b3'.trans (b4.mono b3'.size)
        have o4' := o4.mono b3'.size
        go_wp2_with fail
        go_ret3
        rw [← HSt.out] at *
        exact setR_yes HF.out o4' b4'
  · have hf' : mapOkB f = false := by simpa using hf
    rw [hf'] at c1
    have HF := hid hf'
    clear hf hR hf'
    go_enter Try.func85, Try.ntmps85
    go_wp2_with fail
    refine c1.mono ?_; rintro e w' ⟨rfl, rfl⟩
    go_wp2_with fail
    go_ret3
    exact setR_no HF.out (Own.nil _ _) (Below.refl _ _)

set_option maxHeartbeats 1000000 in
theorem sSettledOf_c (A : Option Addr) (c : Nat) (f : List Int) (w : World) (hR : RdA w A f) (hn : f.length ≤ 1048577) :
    Calls Try.prog 84 #[.slice A f.length c] w (SetR w f) := by
  have c1 := sMapOk_c A c f w hR hn
  by_cases hf : mapOkB f = true
  · rw [hf] at c1
    have HF := hid hf
    have gf := good_of hf
    have HS := hid (setN_spec gf)
    have hs1 := HS.out.2.2.2.2.1
    have hs0 := HS.out.2.2.2.1
    have C4 := hid (fun (m : Nat) (hm : m ≤ 1000000) W (hb : Below w.heap.size w W) => by have := sPowerOf_c A c f m W (hR.below hb) hn; rw [powL_yes gf hm] at this; exact this)
    have HL := hid (fun m => pw_len f m)
    have h7 := gf.1.2
    have C5 := hid (show ∀ (A' : Option Addr) c' W m, RdA W A' (pw f m) → _ from fun A' c' W m hr => sIdempotentOk_c A' c' (pw f m) W hr (by rw [HL.out]; omega))
    have HY := hid (show idemB (pw f (setN f)) = true from (idem_iff gf hs0).2 ⟨HS.out.1, HS.out.2.2.1⟩)
    have HN := hid (show ∀ m, 1 ≤ m → m < setN f → idemB (pw f m) = false from fun m h1 h2 => by
      rcases e : idemB (pw f m) with _ | _
      · rfl
      · have := (idem_iff gf h1).1 e
        have := HS.out.2.2.2.2.2 m this.1 this.2
        omega)
    clear hf hR gf HS
    generalize hSt : setN f = S at *
    have HSt := hid hSt
    clear hSt
    go_enter Try.func84, Try.ntmps84
    go_wp2_with fail
    refine c1.mono ?_; rintro e w' ⟨rfl, rfl⟩
    clear c1
    go_wp2_with fail
    go_loopw [5] (fun i wr => ∃ m : Nat, 1 ≤ m ∧ m ≤ S ∧ i = .int .i64 m ∧ Below w.heap.size w wr) (fun i _ => S + 1 - (intOf i).toNat)
    case atStart => exact ⟨1, Nat.le_refl _, hs0, rfl, Below.refl _ _⟩
    case round =>
      obtain ⟨m, hm1, hm, rfl, hb⟩ := hrel
      have k4 := hid (C4.out m (by omega) wr hb)
      have K5 := hid (fun A' c' W hr => C5.out A' c' W m hr)
      clear C4 C5
      by_cases he : m = S
      · subst he
        rw [HY.out] at K5
        go_wp2_with fail
        refine k4.out.mono ?_; rintro e w3 ⟨A3, c3, rfl, o3, b3⟩
        have b3' := hb.trans (b3.mono hb.size)
        have k5 := hid (K5.out A3 c3 w3 o3.rd)
        clear k4 K5
        go_wp2_with fail
        refine k5.out.mono ?_; rintro e w4 ⟨rfl, b4⟩
        have b4' := b3'.trans (b4.mono b3'.size)
        have o4 := (o3.below b4).mono hb.size
        go_wp2_with fail
        go_ret3
        rw [← HSt.out] at *
        exact setR_yes HF.out o4 b4'
      · rw [HN.out m hm1 (by omega)] at K5
        go_wp2_with fail
        refine k4.out.mono ?_; rintro e w3 ⟨A3, c3, rfl, o3, b3⟩
        have b3' := hb.trans (b3.mono hb.size)
        have k5 := hid (K5.out A3 c3 w3 o3.rd)
        clear k4 K5
        go_wp2_with fail
        refine k5.out.mono ?_; rintro e w4 ⟨rfl, b4⟩
        have b4' := b3'.trans (b4.mono b3'.size)
        go_wp2_with fail
        go_roundw
        case rel => exact ⟨m + 1, by omega, by omega, by go_num, b4'⟩
        case measure => simp [intOf]; omega
  · have hf' : mapOkB f = false := by simpa using hf
    rw [hf'] at c1
    have HF := hid hf'
    have o0 := own_empty w
    have b0 : Below w.heap.size w (w.alloc (.cells #[] 3)) := (Below.refl _ _).alloc (Nat.le_refl _) _
    clear hf hR hf'
    go_enter Try.func84, Try.ntmps84
    go_wp2_with fail
    refine c1.mono ?_; rintro e w' ⟨rfl, rfl⟩
    go_wp2_with fail
    go_ret3
    exact setR_no HF.out o0 b0

def SetP (w : World) (L : List Int) (n : Int) (b : Bool) (e : Ending) (w' : World) : Prop := ∃ A c, e = .returned (.tuple #[.slice A L.length c, .int .i64 n, .bool b]) ∧ Own w.heap.size w' (.slice A L.length c) L ∧ Below w.heap.size w w'
theorem sSettledOf_p (A : Option Addr) (c : Nat) (f : List Int) (w : World) (hR : RdA w A f) (hn : f.length ≤ 1048577) :
    Calls Try.prog 84 #[.slice A f.length c] w (SetP w (settleL f) (settleV f) (mapOkB f)) := sSettledOf_c A c f w hR hn
theorem iSettledOf_p (A : Option Addr) (c : Nat) (f : List Int) (w : World) (hR : RdA w A f) (hn : f.length ≤ 1048577) :
    Calls Try.prog 85 #[.slice A f.length c] w (SetP w (settleL f) (settleV f) (mapOkB f)) := iSettledOf_c A c f w hR hn

end Go.Proofs.Ytenmgiocbdabdaa
