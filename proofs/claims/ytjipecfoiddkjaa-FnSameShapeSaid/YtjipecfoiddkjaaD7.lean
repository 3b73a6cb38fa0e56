/- The draws of maps and names, and of two maps. -/
import Derived.Test.YtjipecfoiddkjaaD5
import Derived.Test.YtjipecfoiddkjaaQ6
namespace Go.Proofs.Ytjipecfoiddkjaa
open Go.RowKit
set_option linter.unusedVariables false

theorem DrawR2.intro_ {w w' : World} {n : Nat} {xs ys : List Int} {A B : Option Addr} {c c' : Nat} (hx : xs.length ≤ n) (hy : ys.length ≤ n) (hf : Own w.heap.size w' (.slice A xs.length c) xs) (hg : Own w.heap.size w' (.slice B ys.length c') ys) (hb : Below w.heap.size w w') :
    DrawR2 w n (.returned (.tuple #[.slice A xs.length c, .slice B ys.length c'])) w' := ⟨xs, ys, A, B, c, c', hx, by omega, rfl, hf, hg, hb⟩
theorem DrawR2.intro2 {w w' : World} {n k l : Nat} {xs ys : List Int} {A B : Option Addr} {c c' : Nat} (hx : xs.length ≤ n) (hy : ys.length ≤ n + 1) (hf : Own w.heap.size w' (.slice A k c) xs) (hg : Own w.heap.size w' (.slice B l c') ys) (hb : Below w.heap.size w w') :
    DrawR2 w n (.returned (.tuple #[.slice A k c, .slice B l c'])) w' := by
  obtain rfl := hf.len
  obtain rfl := hg.len
  exact ⟨xs, ys, A, B, c, c', hx, hy, rfl, hf, hg, hb⟩
set_option maxHeartbeats 1000000 in
theorem DrawNamedOf_c (a : Option Addr) (len cap : Nat) (zs : List Int) (w : World) (h : RowIn .u8 w a len cap zs) (hn : len ≤ 1048576) :
    Calls Try.prog 6 #[.slice a len cap] w (DrawR2 w 8) := by
  have ho := open_c a len cap zs w h hn
  clear h
  go_enter Try.func6, Try.ntmps6
  go_wp2_with fail
  refine ho.mono ?_
  rintro e w1 ⟨r, rfl, hr, hb, hr0, hr1⟩
  go_wp2_with fail
  refine (l20Map_c r 0 7 14 w1 hr (by omega) (by omega) (by omega) (by omega) (by omega)).mono ?_
  rintro e w2 ⟨xs, A, c, hx, rfl, of, hr2, hg2⟩
  have B2 := below_pick hb hr0 hb.size hg2
  have of := of.mono hb.size
  have hsz := B2.size
  have HF := hid (fun g h => (of.lt g h).2)
  clear hr hb ho hg2 hr1
  go_wp2_with fail
  refine (l20Names_c r (0 + 30) xs.length w2 hr2 (by omega) hx).mono ?_
  rintro e w3 ⟨ys, B, c', hy, rfl, og, hr3, hg3⟩
  have B3 := below_pick B2 hr0 hsz hg3
  have of3 := of.rdr hr2 hg3
  have hsz3 := hg3.size
  clear hg3 of hr2 B2
  by_cases h0 : 0 < ys.length
  · obtain ⟨g, cg, e9, hgB, hgs⟩ := og.pos h0
    cases e9
    go_wp2_with fail
    refine (odd_c r (0 + 30 + 8) 12 w3 hr3 (by omega) (by omega) (by omega)).mono ?_
    rintro e w4 ⟨b, rfl, hr4, hg4, hz4⟩
    have B4 := below_pick B3 hr0 B3.size hg4
    have of4 := of3.rdr hr3 hg4
    have og4 := og.rdr hr3 hg4
    clear hg4 of3 og hr3 B3
    cases b
    · go_wp2_with fail
      go_ret2
      exact ⟨xs, ys, A, _, c, c', hx, by omega, rfl, of4, og4.mono hsz, B4⟩
    · have e1 : (ys.length : Int) - 1 = ((ys.length - 1 : Nat) : Int) := by omega
      have hJ : ys.length - 1 < ys.length := by omega
      have hc1 := og4.cell hJ
      have hc2 := og4.cell h0
      have hf2 := og4.frozen 0
      have os := (og4.store 0 (nth ys (ys.length - 1))).mono hsz
      have bs := (Below.refl w2.heap.size w4).setCell (p := ⟨g, 0, none⟩) hgB (.int .i64 (nth ys (ys.length - 1)))
      have HR := hid (DrawR2.intro2 (n := 8) hx (by rw [List.length_set]; omega) (of4.keep HF.out bs) os (B4.trans (bs.mono hsz)))
      clear os bs of4 og4 B4
      generalize nth ys (ys.length - 1) = X at *
      generalize ys.length - 1 = J at *
      go_wp2_with fail
      go_ret2
      exact HR.out
  · have h1 : ys.length = 0 := by omega
    have q : (0 : Int) < ys.length ↔ False := by simp [h1]
    have H := hid (DrawR2.intro_ hx hy of3 (og.mono hsz) B3)
    rw [h1] at H ⊢
    clear h0 q h1
    go_wp2_with fail
    go_ret2
    exact H.out

set_option maxHeartbeats 2000000 in
theorem DrawSameShape_c (a : Option Addr) (len cap : Nat) (zs : List Int) (w : World) (h : RowIn .u8 w a len cap zs) (hn : len ≤ 1048576) :
    Calls Try.prog 20 #[.slice a len cap] w (DrawR2 w 8) := by
  have ho := open_c a len cap zs w h hn
  clear h
  go_enter Try.func20, Try.ntmps20
  go_wp2_with fail
  refine ho.mono ?_
  rintro e w1 ⟨r, rfl, hr, hb, hr0, hr1⟩
  go_wp2_with fail
  refine (l20Map_c r 0 5 14 w1 hr (by omega) (by omega) (by omega) (by omega) (by omega)).mono ?_
  rintro e w2 ⟨xs, A, c, hx, rfl, of, hr2, hg2⟩
  have B2 := below_pick hb hr0 hb.size hg2
  have of := of.mono hb.size
  have hsz := B2.size
  have c1 := sMapOk_c A c xs w2 of.rd (by omega)
  clear hr hb ho hg2 hr1
  by_cases hf : mapOkB xs = true
  · have hf1 := (good_of hf).1.1
    rw [hf] at c1
    go_wp2_with fail
    refine c1.mono ?_; rintro e w' ⟨rfl, rfl⟩
    go_wp2_with fail
    refine (pick_c r (0 + 30) 2 w2 hr2 (by omega) (by omega) (by omega)).mono ?_
    rintro e w3 ⟨z, rfl, hz0, hz1, hr3, hg3, hz3⟩
    have B3 := below_pick B2 hr0 hsz hg3
    have of3 := of.rdr hr2 hg3
    have hsz3 := B3.size
    clear hz3 of hg3 B2 hr2
    by_cases hzz : z = 0
    · subst hzz
      go_wp2_with fail
      refine (l20Names_c r (0 + 30 + 1) xs.length w3 hr3 (by omega) hx).mono ?_
      rintro e w4 ⟨ys, B, c', hy, rfl, og, hr4, hg4⟩
      have B4 := below_pick B3 hr0 hsz3 hg4
      have of4 := of3.rdr hr3 hg4
      have k4 := hid (sNamedOf_c A B c c' xs ys w4 of4.rd og.rd (by omega) (by omega))
      have HL := hid (show (namedL xs ys).length ≤ 8 + 1 by unfold namedL; split <;> simp [mk_len]; omega)
      clear hg4 hr3 B3 of3 og
      go_wp2_with fail
      refine k4.out.mono ?_
      rintro e w5 ⟨A5, c5, rfl, o5, b5⟩
      have H := hid (DrawR2.intro2 (n := 8) hx HL.out (of4.below b5) (o5.mono B4.size) (B4.trans (b5.mono B4.size)))
      clear HL
      go_wp2_with fail
      go_ret2
      exact H.out
    · have q1 : (z == 0) = false := by simpa using hzz
      have c2 := sMapOk_c A c xs w3 of3.rd (by omega)
      rw [hf] at c2
      go_wp2_with fail
      refine c2.mono ?_; rintro e w' ⟨rfl, rfl⟩
      go_wp2_with fail
      refine (pick_c r (0 + 30 + 1) 3 w3 hr3 (by omega) (by omega) (by omega)).mono ?_
      rintro e w4 ⟨z2, rfl, hz20, hz21, hr4, hg4, hz4⟩
      have B4 := below_pick B3 hr0 hsz3 hg4
      have of4 := of3.rdr hr3 hg4
      have hsz4 := B4.size
      clear hz4 hg4 hr3 B3 of3 c2 q1 hzz
      by_cases hz2 : 0 < z2
      · have HF := hid (fun g h => (of4.lt g h).2)
        have oe := own_empty w4
        have be : Below w4.heap.size w4 (w4.alloc (.cells #[] 3)) := (Below.refl _ _).alloc (Nat.le_refl _) _
        have hrd := of4.rd.below be
        obtain ⟨gA, cA, e9, -, -⟩ := of4.pos (by omega)
        cases e9
        go_wp2_with (at_builtin; refine wpList_appE _ rfl _ _ rfl w4.heap.size _ rfl oe ⟨gA, 0, none⟩ xs c rfl (fun k hk => by obtain ⟨ad', e, hc⟩ := hrd k hk; cases e; exact hc) (by omega) (by simp <;> omega) ?_; intro A5 c5 w5 o5 b5)
        have b35 := be.trans b5
        have hr5 := hr4.below b35 (by have := hr4.lt; omega)
        have of5 := of4.below b35
        have B5 := B4.trans (b35.mono hsz4)
        have hsz5 := b35.size
        obtain ⟨g, cg, e9, hgB, hgs⟩ := o5.pos (by omega)
        cases e9
        clear b35 b5 oe hrd be of4 B4
        go_wp2_with fail
        refine (pick_c r (0 + 30 + 1 + 1) xs.length w5 hr5 (by omega) (by omega) (by omega)).mono ?_
        rintro e w6 ⟨z6, rfl, hz60, hz61, hr6, hg6, hz6⟩
        have B6 := below_pick B5 hr0 B5.size hg6
        have of6 := of5.rdr hr5 hg6
        have o6 := o5.rdr hr5 hg6
        clear hg6 hr5 B5 of5 o5
        obtain ⟨Z, rfl⟩ := Int.eq_ofNat_of_zero_le hz60
        have hZ : Z < xs.length := by omega
        go_wp2_with fail
        refine (pick_c r (0 + 30 + 1 + 1 + 1) xs.length w6 hr6 (by omega) (by omega) (by omega)).mono ?_
        rintro e w7 ⟨z7, rfl, hz70, hz71, hr7, hg7, hz7⟩
        have B7 := below_pick B6 hr0 B6.size hg7
        have of7 := of6.rdr hr6 hg7
        have o7 := o6.rdr hr6 hg7
        clear hg7 hr6 B6 of6 o6
        have hc2 := o7.cell hZ
        have hf2 := o7.frozen Z
        have os := (o7.store Z z7).mono hsz4
        have bs := (Below.refl w4.heap.size w7).setCell (p := ⟨g, Z, none⟩) hgB (.int .i64 z7)
        have H := hid (DrawR2.intro2 (n := 8) hx (by rw [List.length_set]; omega) (of7.keep HF.out bs) os (B7.trans (bs.mono hsz4)))
        clear os bs of7 o7 B7 HF
        go_wp2_with fail
        go_ret2
        exact H.out
      · have q2 : z2 = 0 := by omega
        subst q2
        go_wp2_with fail
        refine (l20Map_c r (0 + 30 + 1 + 1) 5 14 w4 hr4 (by omega) (by omega) (by omega) (by omega) (by omega)).mono ?_
        rintro e w5 ⟨ys, B, c', hy, rfl, og, hr5, hg5⟩
        have H := hid (DrawR2.intro2 (n := 8) hx (by omega) (of4.rdr hr4 hg5) (og.mono hsz4) (below_pick B4 hr0 hsz4 hg5))
        go_wp2_with fail
        go_ret2
        exact H.out
  · rw [show mapOkB xs = false by simpa using hf] at c1
    have c2 := c1
    go_wp2_with fail
    refine c1.mono ?_; rintro e w' ⟨rfl, rfl⟩
    go_wp2_with fail
    refine c2.mono ?_; rintro e w' ⟨rfl, rfl⟩
    go_wp2_with fail
    refine (l20Map_c r (0 + 30) 5 14 w2 hr2 (by omega) (by omega) (by omega) (by omega) (by omega)).mono ?_
    rintro e w5 ⟨ys, B, c', hy, rfl, og, hr5, hg5⟩
    have H := hid (DrawR2.intro2 (n := 8) hx (by omega) (of.rdr hr2 hg5) (og.mono hsz) (below_pick B2 hr0 hsz hg5))
    go_wp2_with fail
    go_ret2
    exact H.out

end Go.Proofs.Ytjipecfoiddkjaa
