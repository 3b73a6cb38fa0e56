/- The walk of the law FnSameShape. -/
import Derived.Test.YtjipecfoiddkjaaN2
import Derived.Test.YtjipecfoiddkjaaX10
import Derived.Test.YtjipecfoiddkjaaD7
import Derived.Test.YtjipecfoiddkjaaM4
import Derived.Test.YtjipecfoiddkjaaM5
import Derived.Test.YtjipecfoiddkjaaS3
namespace Go.Proofs.Ytjipecfoiddkjaa
open Go.RowKit
set_option linter.unusedVariables false

/-- the names that the number i tells -/
def nmsD (n i : Nat) : List Int := mk n (fun j => i / 5 ^ j % 5)
/-- the names that the number i tells make ys of xs -/
def PP (xs ys : List Int) (i : Nat) : Prop := i / 5 ^ xs.length = 0 ∧ namedL xs (nmsD xs.length i) = ys
theorem sameV_of_ren {f g p : List Int} (R : Ren f g p) : sameV f g = true := by
  unfold sameV
  rw [ok_of R.hf, ok_of R.hg, R.shapeT]
  simp
theorem named_ren {xs ys p : List Int} (hg : Good ys) (h : namedL xs p = ys) : Ren xs ys p := by
  by_cases hc : mapOkB xs = true ∧ turnedB p = true ∧ xs.length = p.length
  · rw [← h]; exact Ren.of (good_of hc.1) hc.2.1 hc.2.2
  · rw [named_no hc] at h
    have := hg.1.1
    rw [← h] at this
    simp at this
theorem codeK_digit : ∀ {l : List Nat}, (∀ x ∈ l, x < 5) → ∀ {j : Nat} (h : j < l.length), codeK 5 l / 5 ^ j % 5 = l[j]
  | [], _, j, h => by simp at h
  | a :: l, hl, 0, _ => by
    have := hl a List.mem_cons_self
    rw [codeK, Nat.pow_zero, Nat.div_one, Nat.add_mul_mod_self_left, Nat.mod_eq_of_lt this]; rfl
  | a :: l, hl, j + 1, h => by
    have ha := hl a List.mem_cons_self
    have hj : j < l.length := by simpa using h
    rw [codeK, show 5 ^ (j + 1) = 5 * 5 ^ j by rw [Nat.pow_succ, Nat.mul_comm], ← Nat.div_div_eq_div_mul, Nat.add_mul_div_left _ _ (by omega), Nat.div_eq_of_lt ha, Nat.zero_add, codeK_digit (fun x hx => hl x (List.mem_cons_of_mem _ hx)) hj]
    rfl
theorem pow5_le {n : Nat} (h : n ≤ 5) : 5 ^ n ≤ 3125 := Nat.pow_le_pow_right (n := 5) (by omega) h
theorem same_found {xs ys : List Int} (hf : Good xs) (hg : Good ys) (h5 : xs.length ≤ 5) : sameV xs ys = true ↔ ∃ i, i < 3125 ∧ PP xs ys i := by
  constructor
  · intro h
    unfold sameV at h
    simp only [Bool.and_eq_true, decide_eq_true_eq] at h
    obtain ⟨p, R⟩ := shape_ren hf hg h5 h.2.2
    have hlt : ∀ x ∈ (List.range xs.length).map (ap p), x < 5 := fun x hx => by
      obtain ⟨k, hk, rfl⟩ := List.mem_map.1 hx
      have := R.plt (List.mem_range.1 hk)
      rw [R.lg] at this
      omega
    have hc := codeK_lt hlt
    rw [List.length_map, List.length_range] at hc
    have h3 := pow5_le h5
    refine ⟨codeK 5 ((List.range xs.length).map (ap p)), by omega, Nat.div_eq_of_lt hc, ?_⟩
    have e : nmsD xs.length (codeK 5 ((List.range xs.length).map (ap p))) = p := by
      conv => rhs; rw [eq_mk R.hp, R.lp]
      refine mk_congr fun j hj => ?_
      rw [codeK_digit hlt (by simpa using hj)]
      simp
    rw [e]; exact R.named
  · rintro ⟨i, _, _, h⟩
    exact sameV_of_ren (named_ren hg h)
theorem same_len_of {xs ys : List Int} (h : xs.length ≠ ys.length) : sameV xs ys = false := by
  cases e : sameV xs ys with
  | false => rfl
  | true =>
    unfold sameV at e
    simp only [Bool.and_eq_true, decide_eq_true_eq] at e
    exact absurd (shape_len (good_of e.1) (good_of e.2.1) e.2.2) h
theorem nms_row {n i k : Nat} {Q : List Int} (hQ : Q.length = n) (hq : ∀ j, j < k → nth Q j = ((i / 5 ^ j % 5 : Nat) : Int)) (hk : k < n) : ∀ j, j < k + 1 → nth (Q.set k ((i / 5 ^ k % 5 : Nat) : Int)) j = ((i / 5 ^ j % 5 : Nat) : Int) := fun j hj => by
  by_cases e : j = k
  · subst e
    simp [nth, hQ, hk]
  · have := hq j (by omega)
    rw [← this]
    simp [nth, show k ≠ j by omega]
theorem nms_all {n i : Nat} {Q : List Int} (hQ : Q.length = n) (hq : ∀ j, j < n → nth Q j = ((i / 5 ^ j % 5 : Nat) : Int)) : Q = nmsD n i :=
  ext_nth (by rw [hQ, nmsD, mk_len]) fun k hk => by rw [hq k (by omega), nmsD, nth_mk (by omega)]
theorem tdiv5 (L : Nat) : Int.tdiv (L : Int) 5 = ((L / 5 : Nat) : Int) := by rw [Int.tdiv_eq_ediv_of_nonneg (by omega)]; exact (Int.natCast_ediv L 5).symm
theorem tmod5 (L : Nat) : Int.tmod (L : Int) 5 = ((L % 5 : Nat) : Int) := by rw [Int.tmod_eq_emod_of_nonneg (by omega)]; exact (Int.natCast_emod L 5).symm

theorem found_step {xs ys : List Int} {m : Nat} {b : Bool} (h : false = true ↔ ∃ i, i < m ∧ PP xs ys i) (hb : b = true ↔ PP xs ys m) : b = true ↔ ∃ i, i < m + 1 ∧ PP xs ys i := by
  rw [hb]
  constructor
  · exact fun h => ⟨m, by omega, h⟩
  · rintro ⟨i, h1, h2⟩
    rcases Nat.lt_or_ge i m with h3 | h3
    · exact absurd (h.2 ⟨i, h3, h2⟩) (by simp)
    · obtain rfl : i = m := by omega
      exact h2

set_option maxRecDepth 20000 in
set_option maxHeartbeats 8000000 in
theorem FnSameShape_w (a : Option Addr) (len cap : Nat) (zs : List Int) (w : World) (h : RowIn .u8 w a len cap zs) :
    Calls Try.prog 5 #[.slice a len cap] w fun e w' => e = .returned (.bool true) ∧ Below w.heap.size w w' := by
  have hcap := h.cap
  unfold maxLen at hcap
  by_cases hbig : 1048576 < len
  · clear h
    go_enter Try.func5, Try.ntmps5
    go_wp2_with fail
    go_ret
    exact ⟨rfl, Below.refl _ _⟩
  · have hd := DrawSameShape_c a len cap zs w h (by omega)
    clear h
    go_enter Try.func5, Try.ntmps5
    go_wp2_with fail
    refine hd.mono ?_
    rintro e w1 ⟨xs, ys, A, B, c, d, hx8, hy8, rfl, of, og, B1⟩
    clear hd
    have hx : xs.length ≤ 1048577 := by omega
    have hy : ys.length ≤ 1048577 := by omega
    have CI := hid (fun (A B : Option Addr) c d W (r : RdA W A xs) (s : RdA W B ys) => iSameShape_c A B c d xs ys W r s hx hy)
    have CS := hid (fun (A B : Option Addr) c d W (r : RdA W A xs) (s : RdA W B ys) => sSameShape_c A B c d xs ys W r s hx hy)
    have CF := hid (fun (A : Option Addr) c W (r : RdA W A xs) => sMapOk_c A c xs W r hx)
    have CG := hid (fun (A : Option Addr) c W (r : RdA W A ys) => sMapOk_c A c ys W r hy)
    by_cases hf : mapOkB xs = true
    · by_cases hg : mapOkB ys = true
      · have gf := good_of hf
        have gg := good_of hg
        rw [hf] at CF
        rw [hg] at CG
        clear hf hg
        by_cases h5 : xs.length ≤ 5
        · by_cases h6 : ys.length ≤ 5
          · have h1 := gf.1.1
            have h2 := gg.1.1
            by_cases hl : xs.length = ys.length
            · have HS := hid (same_found gf gg h5)
              have HR := hid (fun (h : sameV xs ys = true) => (show ∃ p, Ren xs ys p by obtain ⟨i, _, _, h⟩ := HS.out.1 h; exact ⟨_, named_ren gg h⟩))
              have hx2 : (pw xs 2).length ≤ 1048577 := by rw [pw_len]; exact hx
              have hy2 : (pw ys 2).length ≤ 1048577 := by rw [pw_len]; exact hy
              have CP := hid (fun (A : Option Addr) c W (r : RdA W A xs) => by have := iPowerOf_c A c xs 2 W r hx; rw [powL, if_pos ⟨ok_of gf, by omega, by omega⟩] at this; exact this)
              have CQ := hid (fun (A : Option Addr) c W (r : RdA W A ys) => by have := iPowerOf_c A c ys 2 W r hy; rw [powL, if_pos ⟨ok_of gg, by omega, by omega⟩] at this; exact this)
              have CH := hid (fun (hv : sameV xs ys = true) (A B : Option Addr) c d W (r : RdA W A (pw xs 2)) (s : RdA W B (pw ys 2)) => by have := iSameShape_c A B c d (pw xs 2) (pw ys 2) W r s hx2 hy2; obtain ⟨p, R⟩ := HR.out hv; rw [sameV_of_ren (R.pw 2)] at this; exact this)
              have HND := hid (fun i => show (nmsD xs.length i).length = xs.length from mk_len _ _)
              have CN := hid (fun (i : Nat) (A B : Option Addr) c d W (r : RdA W A xs) (s : RdA W B (nmsD xs.length i)) => by have := sNamedOf_c A B c d xs (nmsD xs.length i) W r s hx (by rw [HND.out]; exact hx); rw [HND.out] at this; exact this)
              have CM := hid (fun (i : Nat) (A : Option Addr) c W (r : RdA W A (nmsD xs.length i)) => by have := sMapOk_c A c (nmsD xs.length i) W r (by rw [HND.out]; exact hx); rw [HND.out] at this; exact this)
              have HNL := hid (fun i => show (namedL xs (nmsD xs.length i)).length ≤ 1048577 from named_len _ _ hx)
              have HMO := hid (fun (i : Nat) (hm : ¬ mapOkB (nmsD xs.length i) = true) (h : namedL xs (nmsD xs.length i) = ys) => hm (ok_of (named_ren gg h).hp))
              have qE : ((xs.length : Int) == (ys.length : Int)) = true := by rw [hl]; simp
              clear HR gf gg hl
              go_wp2_with fail
              refine (CI.out A B c d _ of.rd og.rd).mono ?_
              rintro e w2 ⟨rfl, b⟩
              have B2 := stepB B1 B1.size b
              replace of := of.below b
              replace og := og.below b
              clear b B1
              go_wp2_with fail
              refine (CS.out A B c d _ of.rd og.rd).mono ?_
              rintro e w3 ⟨rfl, b⟩
              have B3 := stepB B2 B2.size b
              replace of := of.below b
              replace og := og.below b
              clear b B2
              go_wp2_with fail
              refine (CF.out A c _ of.rd).mono ?_
              rintro e w' ⟨rfl, rfl⟩
              go_wp2_with fail
              refine (CG.out B d _ og.rd).mono ?_
              rintro e w' ⟨rfl, rfl⟩

              have HV := hid (show sameV xs ys = sameV xs ys from rfl)
              generalize hv : sameV xs ys = V at *
              clear hv HV
              go_wp2_with (at_make; refine wpList_mk _ rfl _ _ rfl _ xs.length rfl rfl rfl (by omega) ?_; intro w4 oN b4)
              have HFf := hid (fun k h => (of.lt k h).2)
              have HFg := hid (fun k h => (og.lt k h).2)
              have B4 := stepB B3 B3.size b4
              replace of := of.below b4
              replace og := og.below b4
              have hN := b4.size
              have hGB := B3.size
              clear b4 B3
              generalize hG : w3.heap.size = g at *
              clear hG
              have HN0 := hid (show (List.replicate xs.length (0 : Int)).length = xs.length by simp)
              generalize List.replicate xs.length (0 : Int) = Q0 at *
              go_wp2_with fail
              go_loopw [6, 8] (fun o i wr => ∃ (m : Nat) (b : Bool) (Q : List Int), m ≤ 3125 ∧ i = .int .i64 m ∧ o = .bool b ∧ Hid (b = true ↔ ∃ i, i < m ∧ PP xs ys i) ∧ Hid (Q.length = xs.length) ∧ Own g wr (.slice (some ⟨g, 0, none⟩) xs.length xs.length) Q ∧ Own w.heap.size wr (.slice A xs.length c) xs ∧ Own w.heap.size wr (.slice B ys.length d) ys ∧ Below w.heap.size w wr ∧ g < wr.heap.size) (fun _ i _ => 3125 - (intOf i).toNat)
              case atStart => exact ⟨0, false, Q0, by omega, rfl, rfl, hid (by simp), HN0, oN, of, og, B4, oN.ge.2⟩
              case round =>
                clear oN of og B4
                obtain ⟨m, b, Q, hm, rfl, rfl, HB, HQ, oN, of, og, hb, hgw⟩ := hrel
                cases b
                · by_cases hlt : m < 3125
                  · go_wp2_with fail
                    go_loopw [9, 10] (fun l i wr => ∃ (k : Nat) (Q : List Int), k ≤ xs.length ∧ i = .int .i64 k ∧ l = .int .i64 ((m / 5 ^ k : Nat) : Int) ∧ Hid (Q.length = xs.length) ∧ Hid (∀ j, j < k → nth Q j = ((m / 5 ^ j % 5 : Nat) : Int)) ∧ Own g wr (.slice (some ⟨g, 0, none⟩) xs.length xs.length) Q ∧ Own w.heap.size wr (.slice A xs.length c) xs ∧ Own w.heap.size wr (.slice B ys.length d) ys ∧ Below w.heap.size w wr ∧ g < wr.heap.size) (fun _ i _ => xs.length - (intOf i).toNat)
                    case atStart => exact ⟨0, Q, Nat.zero_le _, rfl, by rw [Nat.pow_zero, Nat.div_one], HQ, hid (fun j hj => absurd hj (by omega)), oN, of, og, hb, hgw⟩
                    case round =>
                      clear oN of og hb hgw HQ
                      obtain ⟨k, Q1, hk, rfl, rfl, HQ, Hq, oN, of, og, hb, hgw⟩ := hrel
                      by_cases hlk : k < xs.length
                      · have hc := oN.cell (k := k) (by rw [HQ.out]; exact hlk)
                        have hfz := oN.frozen k
                        have e1 := tmod5 (m / 5 ^ k)
                        have e2 := tdiv5 (m / 5 ^ k)
                        have bs := (Below.refl g wr).setCell (p := ⟨g, k, none⟩) (Nat.le_refl g) (.int .i64 ((m / 5 ^ k % 5 : Nat) : Int))
                        have HX := hid (And.intro (oN.store k ((m / 5 ^ k % 5 : Nat) : Int)) (And.intro (of.keep HFf.out bs) (And.intro (og.keep HFg.out bs) (And.intro (hb.trans (bs.mono hGB)) (Nat.lt_of_lt_of_le hgw bs.size)))))
                        have HL2 := hid (show (Q1.set k ((m / 5 ^ k % 5 : Nat) : Int)).length = xs.length by rw [List.length_set, HQ.out])
                        have Hq2 := hid (nms_row HQ.out Hq.out hlk)
                        have HP := hid (show m / 5 ^ (k + 1) = m / 5 ^ k / 5 by rw [Nat.pow_succ, Nat.div_div_eq_div_mul])
                        clear bs oN of og hb hgw HQ Hq
                        generalize hQ2 : Q1.set k ((m / 5 ^ k % 5 : Nat) : Int) = Q2 at *
                        clear hQ2
                        have hLm : m / 5 ^ k ≤ m := Nat.div_le_self _ _
                        generalize m / 5 ^ k = L at *
                        go_wp2_with fail
                        go_roundw
                        case rel => exact ⟨k + 1, Q2, by omega, by go_num, by rw [HP.out]; go_num, HL2, Hq2, HX.out⟩
                        case measure => simp [intOf]; omega
                      · obtain rfl : k = xs.length := by omega
                        obtain rfl := nms_all HQ.out Hq.out
                        have hLm : m / 5 ^ xs.length ≤ m := Nat.div_le_self _ _
                        by_cases hz : m / 5 ^ xs.length = 0
                        · have k1 := hid (CM.out m _ xs.length _ oN.rd)
                          by_cases hmk : mapOkB (nmsD xs.length m) = true
                          · have k1 := hid (by have := k1.out; rw [hmk] at this; exact this)
                            have k2 := hid (CN.out m A (some ⟨g, 0, none⟩) c xs.length _ of.rd oN.rd)
                            have hn1 := HNL.out m
                            have HPm := hid (show PP xs ys m ↔ namedL xs (nmsD xs.length m) = ys from ⟨fun h => h.2, fun h => ⟨hz, h⟩⟩)
                            rw [hz]
                            generalize namedL xs (nmsD xs.length m) = R at *
                            clear hmk hz hLm
                            go_wp2_with fail
                            refine k1.out.mono ?_
                            rintro e w' ⟨rfl, rfl⟩
                            go_wp2_with fail
                            refine k2.out.mono ?_
                            rintro e w6 ⟨D, dd, rfl, oR, b6⟩
                            have hb6 := stepB hb hb.size b6
                            replace of := of.below b6
                            replace og := og.below b6
                            replace oN := oN.below b6
                            have hg6 := Nat.lt_of_lt_of_le hgw b6.size
                            clear b6 hb k1 k2
                            go_wp2_with fail
                            refine (sameInts_c D B dd d R ys _ oR.rd og.rd hn1 hy).mono ?_
                            rintro e w7 ⟨rfl, b7⟩
                            have hb7 := stepB hb6 hb6.size b7
                            replace of := of.below b7
                            replace og := og.below b7
                            replace oN := oN.below b7
                            have hg7 := Nat.lt_of_lt_of_le hg6 b7.size
                            clear b7 hb6 oR
                            have HB2 := hid (found_step (m := m) HB.out (b := decide (R = ys)) (by rw [decide_eq_true_iff, HPm.out]))
                            generalize decide (R = ys) = bb at *
                            go_wp2_with fail
                            go_roundw
                            case rel => exact ⟨m + 1, bb, _, by omega, by go_num, rfl, HB2, HQ, oN, of, og, hb7, hg7⟩
                            case measure => simp [intOf]; omega
                          · have k1 := hid (by have := k1.out; rw [show mapOkB (nmsD xs.length m) = false by simpa using hmk] at this; exact this)
                            have HB2 := hid (found_step (m := m) HB.out (b := false) ⟨fun h => by simp at h, fun h => absurd h.2 (HMO.out m hmk)⟩)
                            rw [hz]
                            clear hmk hz hLm
                            go_wp2_with fail
                            refine k1.out.mono ?_
                            rintro e w' ⟨rfl, rfl⟩
                            clear k1
                            go_wp2_with fail
                            go_roundw
                            case rel => exact ⟨m + 1, false, _, by omega, by go_num, rfl, HB2, HQ, oN, of, og, hb, hgw⟩
                            case measure => simp [intOf]; omega
                        · have HB2 := hid (found_step (m := m) HB.out (b := false) ⟨fun h => by simp at h, fun h => absurd h.1 hz⟩)
                          have q0 : (((m / 5 ^ xs.length : Nat) : Int) == 0) = false := beq_eq_false_iff_ne.2 (by omega)
                          clear hz
                          generalize m / 5 ^ xs.length = L at *
                          go_wp2_with fail
                          go_roundw
                          case rel => exact ⟨m + 1, false, _, by omega, by go_num, rfl, HB2, HQ, oN, of, og, hb, hgw⟩
                          case measure => simp [intOf]; omega
                  · obtain rfl : m = 3125 := by omega
                    cases V
                    · clear HB HS HQ
                      go_wp2_with fail
                      go_ret
                      exact ⟨rfl, hb⟩
                    · exact absurd (HB.out.2 (HS.out.1 rfl)) (by simp)
                · cases V
                  · obtain ⟨i, h1, h2⟩ := HB.out.1 rfl
                    exact absurd (HS.out.2 ⟨i, by omega, h2⟩) (by simp)
                  · have K := hid (CH.out rfl)
                    clear HB HS HQ oN CH
                    by_cases hlt : m < 3125
                    · go_wp2_with fail
                      refine (CP.out A c _ of.rd).mono ?_
                      rintro e w6 ⟨D, dd, rfl, oD, b6⟩
                      have hb6 := stepB hb hb.size b6
                      replace og := og.below b6
                      clear b6 hb
                      go_wp2_with fail
                      refine (CQ.out B d _ og.rd).mono ?_
                      rintro e w7 ⟨E, de, rfl, oE, b7⟩
                      have hb7 := stepB hb6 hb6.size b7
                      replace oD := oD.below b7
                      clear b7 hb6
                      go_wp2_with fail
                      refine (K.out D E dd de _ oD.rd oE.rd).mono ?_
                      rintro e w8 ⟨rfl, b8⟩
                      have hb8 := stepB hb7 hb7.size b8
                      go_wp2_with fail
                      go_ret
                      exact ⟨rfl, hb8⟩
                    · obtain rfl : m = 3125 := by omega
                      go_wp2_with fail
                      refine (CP.out A c _ of.rd).mono ?_
                      rintro e w6 ⟨D, dd, rfl, oD, b6⟩
                      have hb6 := stepB hb hb.size b6
                      replace og := og.below b6
                      clear b6 hb
                      go_wp2_with fail
                      refine (CQ.out B d _ og.rd).mono ?_
                      rintro e w7 ⟨E, de, rfl, oE, b7⟩
                      have hb7 := stepB hb6 hb6.size b7
                      replace oD := oD.below b7
                      clear b7 hb6
                      go_wp2_with fail
                      refine (K.out D E dd de _ oD.rd oE.rd).mono ?_
                      rintro e w8 ⟨rfl, b8⟩
                      have hb8 := stepB hb7 hb7.size b8
                      go_wp2_with fail
                      go_ret
                      exact ⟨rfl, hb8⟩
            · have e0 := same_len_of hl
              rw [e0] at CI CS
              clear e0
              have qE : ((xs.length : Int) == (ys.length : Int)) = false := beq_eq_false_iff_ne.2 (by omega)
              clear gf gg hl
              go_wp2_with fail
              refine (CI.out A B c d _ of.rd og.rd).mono ?_
              rintro e w2 ⟨rfl, b⟩
              have B2 := stepB B1 B1.size b
              replace of := of.below b
              replace og := og.below b
              clear b B1
              go_wp2_with fail
              refine (CS.out A B c d _ of.rd og.rd).mono ?_
              rintro e w3 ⟨rfl, b⟩
              have B3 := stepB B2 B2.size b
              replace of := of.below b
              replace og := og.below b
              clear b B2
              go_wp2_with fail
              refine (CF.out A c _ of.rd).mono ?_
              rintro e w' ⟨rfl, rfl⟩
              go_wp2_with fail
              refine (CG.out B d _ og.rd).mono ?_
              rintro e w' ⟨rfl, rfl⟩
              go_wp2_with (at_make; refine wpList_mk _ rfl _ _ rfl _ xs.length rfl rfl rfl (by omega) ?_; intro w4 oN b4)
              have B4 := stepB B3 B3.size b4
              clear b4 B3 oN of og
              go_wp2_with fail
              go_loopw [6, 8] (fun o i wr => i = .int .i64 0 ∧ o = .bool false ∧ Below w.heap.size w wr) (fun _ i _ => 3125 - (intOf i).toNat)
              case atStart => exact ⟨rfl, rfl, B4⟩
              case round =>
                obtain ⟨rfl, rfl, hb⟩ := hrel
                go_wp2_with fail
                go_ret
                exact ⟨rfl, hb⟩
          · have q5 : ¬ (5 : Int) < (xs.length : Int) := by omega
            have q6 : (5 : Int) < (ys.length : Int) := by omega
            generalize sameV xs ys = V at *
            clear gf gg h5 h6
            go_wp2_with fail
            refine (CI.out A B c d _ of.rd og.rd).mono ?_
            rintro e w2 ⟨rfl, b⟩
            have B2 := stepB B1 B1.size b
            replace of := of.below b
            replace og := og.below b
            clear b B1
            go_wp2_with fail
            refine (CS.out A B c d _ of.rd og.rd).mono ?_
            rintro e w3 ⟨rfl, b⟩
            have B3 := stepB B2 B2.size b
            replace of := of.below b
            replace og := og.below b
            clear b B2
            go_wp2_with fail
            refine (CF.out A c _ of.rd).mono ?_
            rintro e w' ⟨rfl, rfl⟩
            go_wp2_with fail
            refine (CG.out B d _ og.rd).mono ?_
            rintro e w' ⟨rfl, rfl⟩
            go_wp2_with fail
            refine (CF.out A c _ of.rd).mono ?_
            rintro e w' ⟨rfl, rfl⟩
            go_wp2_with fail
            refine (CG.out B d _ og.rd).mono ?_
            rintro e w' ⟨rfl, rfl⟩
            go_wp2_with fail
            refine (alive_c _).mono ?_
            rintro e w5 ⟨rfl, b⟩
            have B5 := stepB B3 B3.size b
            go_wp2_with fail
            go_ret
            exact ⟨rfl, B5⟩
        · have q5 : (5 : Int) < (xs.length : Int) := by omega
          generalize sameV xs ys = V at *
          clear gf h5
          go_wp2_with fail
          refine (CI.out A B c d _ of.rd og.rd).mono ?_
          rintro e w2 ⟨rfl, b⟩
          have B2 := stepB B1 B1.size b
          replace of := of.below b
          replace og := og.below b
          clear b B1
          go_wp2_with fail
          refine (CS.out A B c d _ of.rd og.rd).mono ?_
          rintro e w3 ⟨rfl, b⟩
          have B3 := stepB B2 B2.size b
          replace of := of.below b
          replace og := og.below b
          clear b B2
          go_wp2_with fail
          refine (CF.out A c _ of.rd).mono ?_
          rintro e w' ⟨rfl, rfl⟩
          go_wp2_with fail
          refine (CG.out B d _ og.rd).mono ?_
          rintro e w' ⟨rfl, rfl⟩
          go_wp2_with fail
          refine (CF.out A c _ of.rd).mono ?_
          rintro e w' ⟨rfl, rfl⟩
          go_wp2_with fail
          refine (CG.out B d _ og.rd).mono ?_
          rintro e w' ⟨rfl, rfl⟩
          go_wp2_with fail
          refine (alive_c _).mono ?_
          rintro e w5 ⟨rfl, b⟩
          have B5 := stepB B3 B3.size b
          go_wp2_with fail
          go_ret
          exact ⟨rfl, B5⟩
      · have e0 : sameV xs ys = false := by unfold sameV; simp [hg]
        rw [hf] at CF
        rw [show mapOkB ys = false by simpa using hg] at CG
        rw [e0] at CI CS
        clear e0
        clear hf hg
        go_wp2_with fail
        refine (CI.out A B c d _ of.rd og.rd).mono ?_
        rintro e w2 ⟨rfl, b⟩
        have B2 := stepB B1 B1.size b
        replace of := of.below b
        replace og := og.below b
        clear b B1
        go_wp2_with fail
        refine (CS.out A B c d _ of.rd og.rd).mono ?_
        rintro e w3 ⟨rfl, b⟩
        have B3 := stepB B2 B2.size b
        replace of := of.below b
        replace og := og.below b
        clear b B2
        go_wp2_with fail
        refine (CF.out A c _ of.rd).mono ?_
        rintro e w' ⟨rfl, rfl⟩
        go_wp2_with fail
        refine (CG.out B d _ og.rd).mono ?_
        rintro e w' ⟨rfl, rfl⟩
        go_wp2_with fail
        refine (CF.out A c _ of.rd).mono ?_
        rintro e w' ⟨rfl, rfl⟩
        go_wp2_with fail
        refine (CG.out B d _ og.rd).mono ?_
        rintro e w' ⟨rfl, rfl⟩
        go_wp2_with fail
        refine (alive_c _).mono ?_
        rintro e w5 ⟨rfl, b⟩
        have B5 := stepB B3 B3.size b
        go_wp2_with fail
        go_ret
        exact ⟨rfl, B5⟩
    · have e0 : sameV xs ys = false := by unfold sameV; simp [hf]
      rw [show mapOkB xs = false by simpa using hf] at CF
      rw [e0] at CI CS
      clear e0
      clear hf
      go_wp2_with fail
      refine (CI.out A B c d _ of.rd og.rd).mono ?_
      rintro e w2 ⟨rfl, b⟩
      have B2 := stepB B1 B1.size b
      replace of := of.below b
      replace og := og.below b
      clear b B1
      go_wp2_with fail
      refine (CS.out A B c d _ of.rd og.rd).mono ?_
      rintro e w3 ⟨rfl, b⟩
      have B3 := stepB B2 B2.size b
      replace of := of.below b
      replace og := og.below b
      clear b B2
      go_wp2_with fail
      refine (CF.out A c _ of.rd).mono ?_
      rintro e w' ⟨rfl, rfl⟩
      go_wp2_with fail
      refine (CF.out A c _ of.rd).mono ?_
      rintro e w' ⟨rfl, rfl⟩
      go_wp2_with fail
      refine (alive_c _).mono ?_
      rintro e w5 ⟨rfl, b⟩
      have B5 := stepB B3 B3.size b
      go_wp2_with fail
      go_ret
      exact ⟨rfl, B5⟩

end Go.Proofs.Ytjipecfoiddkjaa
