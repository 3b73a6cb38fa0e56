/- The draws of names, of two maps, of turns, of a map and a thing. -/
import Derived.Test.YtenmgiocbdabdaaD4
import Derived.Test.YtenmgiocbdabdaaQ2
namespace Go.Proofs.Ytenmgiocbdabdaa
open Go.RowKit
set_option linter.unusedVariables false

theorem DrawnR.le {w w' : World} {r m d d' n : Nat} {e : Ending} (h : DrawnR w r m d n e w') (hd : d ≤ d') : DrawnR w r m d' n e w' := by
  obtain ⟨xs, A, c, h1, h2, h3, h4, h5⟩ := h
  exact ⟨xs, A, c, h1, h2, h3, h4.more (by omega), h5⟩

set_option maxHeartbeats 2000000 in
theorem l20Names_c (r m n : Nat) (w : World) (hr : Rdr w r m) (hm : m ≤ 1000) (hn : n ≤ 8) :
    Calls Try.prog 109 #[.pointer (some ⟨r, 0, none⟩), .int .i64 n] w (DrawnR w r m 8 8) := by
  have hrl := hr.lt
  have o0 := own_empty w
  have b0 : Below w.heap.size w (w.alloc (.cells #[] 3)) := (Below.refl _ _).alloc (Nat.le_refl _) _
  have hr0 := hr.below b0 hrl
  have g0 := grown_of_below b0 (some r)
  clear hr b0
  go_enter Try.func109, Try.ntmps109
  go_wp2_with fail
  go_loopw [5, 6] (fun v i wr => ∃ (k : Nat) (xs : List Int), k ≤ n ∧ Hid (xs.length = k) ∧ i = .int .i64 k ∧ Own w.heap.size wr v xs ∧ Rdr wr r (m + k) ∧ w.grownBy wr (some r)) (fun _ i _ => n - (intOf i).toNat)
  case atStart => exact ⟨0, [], Nat.zero_le _, rfl, rfl, o0, hr0, g0⟩
  case round =>
    clear o0 hr0 g0
    obtain ⟨k, xs, hk, HXL, rfl, ho, hr1, g1⟩ := hrel
    by_cases hlt : k < n
    · go_wp2_with fail
      refine (pick_c r (m + k) ((k : Int) + 1) wr hr1 (by omega) (by omega) (by omega)).mono ?_
      rintro e w2 ⟨z, rfl, hz0, hz1, hr2, hg2, hz2⟩
      have g2 := grown_pick g1 hg2
      have o2 := ho.pick hrl hg2
      have hsz : w.heap.size ≤ w2.heap.size := g2.size
      obtain ⟨Z, rfl⟩ := Int.eq_ofNat_of_zero_le hz0
      clear hz2 hg2 g1 ho hr1
      go_wp2_with (at_builtin; refine wpList_app1 _ rfl _ _ rfl w.heap.size _ xs rfl (o2.alloc _) w2.heap.size (k : Int) rfl (cell_one1 _ _ _) (by have := HXL.out; omega) (by simp; omega) ?_; intro A3 c3 w3 o3 b3)
      have b3' : Below w.heap.size w2 w3 := ((Below.refl _ w2).alloc hsz _).trans b3
      have hr3 := hr2.below b3' hrl
      have g3 := grown_step g2 b3' (Nat.le_refl _)
      clear b3 b3' hr2 g2 o2
      obtain ⟨gO, c', e9, hgO, -⟩ := o3.pos (by simp)
      rw [List.length_append, show [((k : Nat) : Int)].length = 1 from rfl] at e9
      cases e9
      have HY := hid (show (xs ++ [(k : Int)]).length = k + 1 by rw [List.length_append, HXL.out]; rfl)
      rw [HXL.out] at o3 ⊢
      generalize xs ++ [(k : Int)] = ys at *
      clear HXL
      go_wp2_with fail
      go_loopw [8] (fun i wr' => ∃ (j : Nat) (zs : List Int), Z ≤ j ∧ j ≤ k ∧ i = .int .i64 j ∧ Hid (zs.length = k + 1) ∧ Own w.heap.size wr' (.slice (some ⟨gO, 0, none⟩) (k + 1) c3) zs ∧ Rdr wr' r (m + k + 1) ∧ w.grownBy wr' (some r)) (fun i _ => (intOf i).toNat)
      case atStart => exact ⟨k, ys, by omega, Nat.le_refl _, rfl, HY, o3, hr3, g3⟩
      case round =>
        clear o3 hr3 g3
        obtain ⟨j, zs, hj1, hj2, rfl, HZ, ho, hr1, g1⟩ := hrel
        by_cases hjz : Z < j
        · have e1 : (j : Int) - 1 = ((j - 1 : Nat) : Int) := by omega
          have hc1 := ho.cell (k := j - 1) (by rw [HZ.out]; omega)
          have hc2 := ho.cell (k := j) (by rw [HZ.out]; omega)
          have hf2 := ho.frozen j
          have hs1 := ho.store j (nth zs (j - 1))
          have bs1 := (Below.refl w.heap.size wr).setCell (p := ⟨gO, j, none⟩) hgO (.int .i64 (nth zs (j - 1)))
          have HR := hid (And.intro hs1 (And.intro (hr1.below bs1 hrl) (grown_step g1 bs1 (Nat.le_refl _))))
          have HL := hid (show (zs.set j (nth zs (j - 1))).length = k + 1 by rw [List.length_set, HZ.out])
          clear ho hr1 g1 hs1 bs1
          generalize nth zs (j - 1) = X at *
          generalize hJ : j - 1 = J at *
          have KJ := hid hJ
          clear hJ
          have hJk : J < k + 1 := by have := KJ.out; omega
          go_wp2_with fail
          go_roundw
          case rel => exact ⟨J, _, by have := KJ.out; omega, by have := KJ.out; omega, rfl, HL, HR.out.1, HR.out.2.1, HR.out.2.2⟩
          case measure => simp [intOf]; have := KJ.out; omega
        · obtain rfl : j = Z := by omega
          have hc2 := ho.cell (k := j) (by rw [HZ.out]; omega)
          have hf2 := ho.frozen j
          have hs1 := ho.store j (k : Int)
          have bs1 := (Below.refl w.heap.size wr).setCell (p := ⟨gO, j, none⟩) hgO (.int .i64 (k : Int))
          have HR := hid (And.intro hs1 (And.intro (hr1.below bs1 hrl) (grown_step g1 bs1 (Nat.le_refl _))))
          have HL := hid (show (zs.set j (k : Int)).length = k + 1 by rw [List.length_set, HZ.out])
          clear ho hr1 g1 hs1 bs1
          go_wp2_with fail
          go_roundw
          case rel => exact ⟨k + 1, _, by omega, HL, by go_num, HR.out.1, HR.out.2.1, HR.out.2.2⟩
          case measure => simp [intOf]; omega
    · obtain rfl : k = n := by omega
      have hxl := HXL.out
      have H := hid (drawn_own (r := r) (m := m) (d := 8) (n := 8) (by omega) ho (hr1.more (by omega)) g1)
      obtain ⟨A, c, rfl, -⟩ := ho.form
      clear hxl ho hr1 g1
      go_wp2_with fail
      go_ret
      exact H.out

/-- two new slices; the reader goes on by at most d -/
def DrawnR2 (w : World) (r m d n : Nat) (e : Ending) (w' : World) : Prop :=
  ∃ (xs ys : List Int) (A B : Option Addr) (c c' : Nat), xs.length ≤ n ∧ ys.length ≤ n + 1 ∧ e = .returned (.tuple #[.slice A xs.length c, .slice B ys.length c']) ∧ Own w.heap.size w' (.slice A xs.length c) xs ∧ Own w.heap.size w' (.slice B ys.length c') ys ∧ Rdr w' r (m + d) ∧ w.grownBy w' (some r)
theorem drawn2_own {w w' : World} {r m d n : Nat} {xs ys : List Int} {A B : Option Addr} {k l c c' : Nat} (hx : xs.length ≤ n) (hy : ys.length ≤ n + 1) (ho : Own w.heap.size w' (.slice A k c) xs) (ho' : Own w.heap.size w' (.slice B l c') ys) (hr : Rdr w' r (m + d)) (hg : w.grownBy w' (some r)) : DrawnR2 w r m d n (.returned (.tuple #[.slice A k c, .slice B l c'])) w' := by
  obtain rfl := ho.len
  obtain rfl := ho'.len
  exact ⟨xs, ys, A, B, c, c', hx, hy, rfl, ho, ho', hr, hg⟩

theorem Own.keep {B B' : Nat} {w w' : World} {v : Value} {xs : List Int} (h : Own B w v xs) (hlt : ∀ g, v.ownBlock = some g → g < B') (hb : Below B' w w') : Own B w' v xs := by
  refine ⟨h.1, ?_⟩
  rcases h.2 with h2 | ⟨g, cap, cur, hv, hg, hh, r⟩
  · exact .inl h2
  · exact .inr ⟨g, cap, cur, hv, hg, (hb.block g (hlt g (by rw [hv]; rfl))).trans hh, r⟩

set_option maxHeartbeats 2000000 in
theorem l20Two_c (r m : Nat) (most n : Int) (w : World) (hr : Rdr w r m) (hm : m ≤ 900) (hq1 : 1 ≤ most) (hq7 : most ≤ 7) (h1 : 0 ≤ n) (h2 : n ≤ 1000) :
    Calls Try.prog 140 #[.pointer (some ⟨r, 0, none⟩), .int .i64 most, .int .i64 n] w (DrawnR2 w r m 40 8) := by
  have hrl := hr.lt
  have hp := l20Map_c r m most n w hr (by omega) hq1 hq7 h1 h2
  clear hr
  go_enter Try.func140, Try.ntmps140
  go_wp2_with fail
  refine hp.mono ?_
  rintro e w1 ⟨xs, A, c, hx, rfl, of, hr1, g1⟩
  have hsz1 : w.heap.size ≤ w1.heap.size := g1.size
  have HF := hid (fun g h => (of.lt g h).2)
  have o1 := own_empty w1
  have b1 : Below w1.heap.size w1 (w1.alloc (.cells #[] 3)) := (Below.refl _ _).alloc (Nat.le_refl _) _
  have of1 := of.alloc (.cells #[] 3)
  have hrl1 : r < w1.heap.size := by omega
  have hr2 := hr1.below b1 hrl1
  have g2 := grown_step g1 b1 hsz1
  have hsz2 := b1.size
  clear hp hr1 g1 b1 of
  go_wp2_with fail
  generalize w1.heap.size = B1 at *
  go_loopw [9, 10] (fun v i wr => ∃ (k : Nat) (ys : List Int), k ≤ xs.length ∧ Hid (ys.length = k) ∧ i = .int .i64 k ∧ Own B1 wr v ys ∧ Own w.heap.size wr (.slice A xs.length c) xs ∧ Rdr wr r (m + 30 + k) ∧ w.grownBy wr (some r) ∧ B1 ≤ wr.heap.size) (fun _ i _ => xs.length - (intOf i).toNat)
  case atStart => exact ⟨0, [], Nat.zero_le _, rfl, rfl, o1, of1, hr2, g2, hsz2⟩
  case round =>
    clear o1 of1 hr2 g2 hsz2
    obtain ⟨k, ys, hk, HY, rfl, ho, of, hr1, g1, hsz⟩ := hrel
    by_cases hlt : k < xs.length
    · go_wp2_with fail
      refine (pick_c r (m + 30 + k) (xs.length : Int) wr hr1 (by omega) (by omega) (by omega)).mono ?_
      rintro e w2 ⟨z, rfl, hz0, hz1, hr2, hg2, hz2⟩
      have g2 := grown_pick g1 hg2
      have o2 := ho.pick hrl1 hg2
      have of2 := of.pick hrl hg2
      have hsz2 : B1 ≤ w2.heap.size := by omega
      clear hz2 hg2 g1 ho hr1 of hsz
      go_wp2_with (at_builtin; refine wpList_app1 _ rfl _ _ rfl B1 _ ys rfl (o2.alloc _) w2.heap.size z rfl (cell_one1 _ _ _) (by have := HY.out; omega) (by simp <;> omega) ?_; intro A3 c3 w3 o3 b3)
      have b3' : Below B1 w2 w3 := ((Below.refl _ w2).alloc hsz2 _).trans b3
      have hr3 := hr2.below b3' hrl1
      have g3 := grown_step g2 b3' hsz1
      have of3 := of2.keep HF.out b3'
      have hsz3 := Nat.le_trans hsz2 b3'.size
      have HY' := hid (show (ys ++ [z]).length = k + 1 by rw [List.length_append, HY.out]; rfl)
      clear b3 b3' hr2 g2 o2 of2
      go_wp2_with fail
      go_roundw
      case rel => exact ⟨k + 1, _, by omega, HY', by go_num, o3, of3, hr3, g3, hsz3⟩
      case measure => simp [intOf]; omega
    · obtain rfl : k = xs.length := by omega
      obtain ⟨A2, c2, rfl, -⟩ := ho.form
      go_wp2_with fail
      refine (odd_c r (m + 30 + xs.length) 14 wr hr1 (by omega) (by omega) (by omega)).mono ?_
      rintro e w2 ⟨b, rfl, hr2, hg2, hz2⟩
      have g2 := grown_pick g1 hg2
      have o2 := ho.pick hrl1 hg2
      have of2 := of.pick hrl hg2
      have hsz2 : B1 ≤ w2.heap.size := by omega
      clear hz2 hg2 g1 ho hr1 of hsz
      cases b
      · go_wp2_with fail
        go_ret2
        exact drawn2_own hx (by have := HY.out; omega) of2 (o2.mono hsz1) (hr2.more (by omega)) g2
      · go_wp2_with (at_builtin; refine wpList_app1 _ rfl _ _ rfl B1 _ ys rfl (o2.alloc _) w2.heap.size 0 rfl (cell_one1 _ _ _) (by have := HY.out; omega) (by simp <;> omega) ?_; intro A3 c3 w3 o3 b3)
        have b3' : Below B1 w2 w3 := ((Below.refl _ w2).alloc hsz2 _).trans b3
        have hr3 := hr2.below b3' hrl1
        have g3 := grown_step g2 b3' hsz1
        have of3 := of2.keep HF.out b3'
        clear b3 b3' hr2 g2 o2 of2
        go_wp2_with fail
        go_ret2
        exact drawn2_own hx (by rw [List.length_append]; have := HY.out; simp; omega) of3 (o3.mono hsz1) (hr3.more (by omega)) g3

set_option maxHeartbeats 1000000 in
theorem l20Turn_c (r m : Nat) (w : World) (hr : Rdr w r m) (hm : m ≤ 900) :
    Calls Try.prog 149 #[.pointer (some ⟨r, 0, none⟩), .int .i64 7] w (DrawnR w r m 40 8) := by
  have hrl := hr.lt
  have hp := odd_c r m 8 w hr (by omega) (by omega) (by omega)
  clear hr
  go_enter Try.func149, Try.ntmps149
  go_wp2_with fail
  refine hp.mono ?_
  rintro e w1 ⟨b, rfl, hr1, g1, hz1⟩
  have hsz1 : w.heap.size ≤ w1.heap.size := g1.size
  clear hp hz1
  cases b
  · go_wp2_with fail
    refine (pick_c r (m + 1) 7 w1 hr1 (by omega) (by omega) (by omega)).mono ?_
    rintro e w2 ⟨z, rfl, hz0, hz1, hr2, hg2, hz2⟩
    have g2 := grown_pick g1 hg2
    have hsz2 : w.heap.size ≤ w2.heap.size := g2.size
    obtain ⟨Z, rfl⟩ := Int.eq_ofNat_of_zero_le hz0
    clear hz2 hg2 g1 hr1 hz0
    have k2' := l20Names_c r (m + 1 + 1) (1 + Z) w2 hr2 (by omega) (by omega)
    rw [show ((1 + Z : Nat) : Int) = 1 + (Z : Int) by omega] at k2'
    have k2 := hid k2'
    clear k2'
    go_wp2_with fail
    refine k2.out.mono ?_
    rintro e w3 ⟨xs, A, c, hx, rfl, of, hr3, hg3⟩
    have g3 := grown_pick g2 hg3
    have of := of.mono hsz2
    have hsz3 : w.heap.size ≤ w3.heap.size := g3.size
    clear k2 hr2 g2 hg3
    go_wp2_with fail
    refine (pick_c r (m + 1 + 1 + 8) 2 w3 hr3 (by omega) (by omega) (by omega)).mono ?_
    rintro e w4 ⟨y, rfl, hy0, hy1, hr4, hg4, hz4⟩
    have g4 := grown_pick g3 hg4
    have of := of.pick hrl hg4
    have hsz4 : w.heap.size ≤ w4.heap.size := g4.size
    clear hz4 hg4 g3 hr3
    by_cases hy : y = 0
    · subst hy
      have k5 := hid (sBehindOf_c A A c c xs xs w4 of.rd of.rd (by omega) (by omega))
      have HL := hid (show (behindL xs xs).length ≤ 8 by unfold behindL; split <;> simp [mk_len]; omega)
      clear of
      go_wp2_with fail
      refine k5.out.mono ?_
      rintro e w5 ⟨A5, c5, rfl, o5, b5⟩
      have hr5 := hr4.below b5 (by omega)
      have g5 := grown_step g4 b5 hsz4
      go_wp2_with fail
      go_ret
      exact drawn_own HL.out (o5.mono hsz4) (hr5.more (by omega)) g5
    · have q1 : (y == 0) = false := by simpa using hy
      go_wp2_with fail
      go_ret
      exact drawn_own hx of (hr4.more (by omega)) g4
  · have k2 := hid (l20Map_c r (m + 1) 7 3 w1 hr1 (by omega) (by omega) (by omega) (by omega) (by omega))
    go_wp2_with fail
    refine k2.out.mono ?_
    rintro e w2 ⟨xs, A, c, hx, rfl, of, hr2, hg2⟩
    have g2 := grown_pick g1 hg2
    go_wp2_with fail
    go_ret
    exact drawn_own hx (of.mono hsz1) (hr2.more (by omega)) g2

/-- a slice and a small number -/
def DrawnI (w : World) (r m d n : Nat) (e : Ending) (w' : World) : Prop :=
  ∃ (xs : List Int) (A : Option Addr) (c : Nat) (z : Int), xs.length ≤ n ∧ -100 ≤ z ∧ z ≤ 100 ∧ e = .returned (.tuple #[.slice A xs.length c, .int .i64 z]) ∧ Own w.heap.size w' (.slice A xs.length c) xs ∧ Rdr w' r (m + d) ∧ w.grownBy w' (some r)
def DrawI (w : World) (n : Nat) (e : Ending) (w' : World) : Prop :=
  ∃ (xs : List Int) (A : Option Addr) (c : Nat) (z : Int), xs.length ≤ n ∧ -100 ≤ z ∧ z ≤ 100 ∧ e = .returned (.tuple #[.slice A xs.length c, .int .i64 z]) ∧ Own w.heap.size w' (.slice A xs.length c) xs ∧ Below w.heap.size w w'
set_option maxHeartbeats 1000000 in
theorem l20At_c (r m : Nat) (w : World) (hr : Rdr w r m) (hm : m ≤ 900) :
    Calls Try.prog 152 #[.pointer (some ⟨r, 0, none⟩), .int .i64 12] w (DrawnI w r m 40 8) := by
  have hrl := hr.lt
  have hp := l20Map_c r m 7 12 w hr (by omega) (by omega) (by omega) (by omega) (by omega)
  clear hr
  go_enter Try.func152, Try.ntmps152
  go_wp2_with fail
  refine hp.mono ?_
  rintro e w1 ⟨xs, A, c, hx, rfl, of, hr1, g1⟩
  clear hp
  by_cases h0 : xs.length = 0
  · have HL := hid h0
    have hx0 : xs.length < 1 := by omega
    have K := hid (pick_c r (m + 30) 1 w1 hr1 (by omega) (by omega) (by omega))
    rw [h0]
    clear h0
    go_wp2_with fail
    refine K.out.mono ?_
    rintro e w2 ⟨z, rfl, hz0, hz1, hr2, hg2, hz2⟩
    have g2 := grown_pick g1 hg2
    have o2 := of.pick hrl hg2
    clear hz2 hg2 g1 hr1 of K
    go_wp2_with fail
    refine (pick_c r (m + 30 + 1) 30 w2 hr2 (by omega) (by omega) (by omega)).mono ?_
    rintro e w3 ⟨y, rfl, hy0, hy1, hr3, hg3, hz3⟩
    have g3 := grown_pick g2 hg3
    have o3 := o2.pick hrl hg3
    clear hz3 hg3 g2 hr2 o2
    go_wp2_with fail
    refine (pick_c r (m + 30 + 1 + 1) 40 w3 hr3 (by omega) (by omega) (by omega)).mono ?_
    rintro e w4 ⟨u, rfl, hu0, hu1, hr4, hg4, hz4⟩
    have g4 := grown_pick g3 hg4
    have o4 := o3.pick hrl hg4
    rw [HL.out] at o4
    clear hz4 hg4 g3 hr3 o3
    go_wp2_with fail
    go_ret2
    exact ⟨xs, A, c, z + y / 29 * 7 - u / 39 * 9, hx, by omega, by omega, by rw [HL.out]; rfl, by rw [HL.out]; exact o4, hr4.more (by omega), g4⟩
  · have hx1 : 1 ≤ xs.length := by omega
    have K := hid (pick_c r (m + 30) (xs.length : Int) w1 hr1 (by omega) (by omega) (by omega))
    clear h0
    go_wp2_with fail
    refine K.out.mono ?_
    rintro e w2 ⟨z, rfl, hz0, hz1, hr2, hg2, hz2⟩
    have g2 := grown_pick g1 hg2
    have o2 := of.pick hrl hg2
    clear hz2 hg2 g1 hr1 of K
    go_wp2_with fail
    refine (pick_c r (m + 30 + 1) 30 w2 hr2 (by omega) (by omega) (by omega)).mono ?_
    rintro e w3 ⟨y, rfl, hy0, hy1, hr3, hg3, hz3⟩
    have g3 := grown_pick g2 hg3
    have o3 := o2.pick hrl hg3
    clear hz3 hg3 g2 hr2 o2
    go_wp2_with fail
    refine (pick_c r (m + 30 + 1 + 1) 40 w3 hr3 (by omega) (by omega) (by omega)).mono ?_
    rintro e w4 ⟨u, rfl, hu0, hu1, hr4, hg4, hz4⟩
    have g4 := grown_pick g3 hg4
    have o4 := o3.pick hrl hg4
    clear hz4 hg4 g3 hr3 o3
    go_wp2_with fail
    go_ret2
    exact ⟨xs, A, c, z + y / 29 * 7 - u / 39 * 9, hx, by omega, by omega, rfl, o4, hr4.more (by omega), g4⟩

end Go.Proofs.Ytenmgiocbdabdaa
