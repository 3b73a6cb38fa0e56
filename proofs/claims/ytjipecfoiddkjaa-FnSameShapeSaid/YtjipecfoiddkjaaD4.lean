/- The draws of maps. -/
import Derived.Test.YtjipecfoiddkjaaD3
namespace Go.Proofs.Ytjipecfoiddkjaa
open Go.RowKit
set_option linter.unusedVariables false

theorem drawn_own {w w' : World} {r m d n : Nat} {xs : List Int} {v : Value} (hx : xs.length ≤ n) (ho : Own w.heap.size w' v xs) (hr : Rdr w' r (m + d)) (hg : w.grownBy w' (some r)) : DrawnR w r m d n (.returned v) w' := by
  obtain ⟨A, c, rfl, _⟩ := ho.form
  exact ⟨xs, A, c, hx, rfl, ho, hr, hg⟩

set_option maxHeartbeats 4000000 in
theorem l20Map_c (r m : Nat) (most n : Int) (w : World) (hr : Rdr w r m) (hm : m ≤ 1000) (hq1 : 1 ≤ most) (hq7 : most ≤ 7) (h1 : 0 ≤ n) (h2 : n ≤ 1000) :
    Calls Try.prog 25 #[.pointer (some ⟨r, 0, none⟩), .int .i64 most, .int .i64 n] w (DrawnR w r m 30 8) := by
  have hrl := hr.lt
  have hp := pick_c r m most w hr (by omega) (by omega) (by omega)
  go_enter Try.func25, Try.ntmps25
  go_wp2_with fail
  refine hp.mono ?_
  rintro e w1 ⟨L, rfl, hL0, hL7, hr1, hg1, hz1⟩
  have hsz1 : w.heap.size ≤ w1.heap.size := hg1.size
  have o1 : Own w.heap.size (w1.alloc (.cells #[] 3)) _ [] := (Own.new_ w1 [] #[] rfl (by decide)).mono hsz1
  have b1 : Below w.heap.size w1 (w1.alloc (.cells #[] 3)) := (Below.refl _ _).alloc hsz1 _
  have hr2 := hr1.below b1 hrl
  have g2 := grown_step hg1 b1 (Nat.le_refl _)
  obtain ⟨N, rfl⟩ := Int.eq_ofNat_of_zero_le hL0
  have hN : N ≤ 6 := by omega
  clear hz1 b1 hg1 hr1 hp hr hL0 hL7
  go_wp2_with fail
  go_loopw [8, 9] (fun v i wr => ∃ (k : Nat) (xs : List Int), k ≤ N + 1 ∧ xs.length = k ∧ i = .int .i64 k ∧ Own w.heap.size wr v xs ∧ Rdr wr r (m + 1 + k) ∧ w.grownBy wr (some r)) (fun _ i _ => N + 1 - (intOf i).toNat)
  case atStart => exact ⟨0, [], Nat.zero_le _, rfl, rfl, o1, hr2, g2⟩
  case round =>
    clear o1 hr2 g2
    obtain ⟨k, xs, hk, hxl, rfl, ho, hr1, g1⟩ := hrel
    have HXL := hid hxl
    have hx6 : xs.length ≤ 7 := by omega
    clear hxl
    by_cases hlt : k < N + 1
    · go_wp2_with fail
      refine (pick_c r (m + 1 + k) (1 + (N : Int)) wr hr1 (by omega) (by omega) (by omega)).mono ?_
      rintro e w2 ⟨z, rfl, hz0, hz1, hr2, hg2, hz2⟩
      have g2 := grown_pick g1 hg2
      have o2 := ho.pick hrl hg2
      have hsz : w.heap.size ≤ w2.heap.size := g2.size
      clear hz2 hg2 g1 ho hr1
      go_wp2_with (at_builtin; refine wpList_app1 _ rfl _ _ rfl w.heap.size _ xs rfl (o2.alloc _) w2.heap.size z rfl (cell_one1 _ _ _) (by omega) (by simp; omega) ?_; intro A3 c3 w3 o3 b3)
      have b3' : Below w.heap.size w2 w3 := ((Below.refl _ w2).alloc hsz _).trans b3
      have hr3 := hr2.below b3' hrl
      have g3 := grown_step g2 b3' (Nat.le_refl _)
      clear b3 b3' hr2 g2 o2
      go_wp2_with fail
      go_roundw
      case rel => exact ⟨k + 1, xs ++ [z], by omega, by rw [List.length_append, HXL.out]; rfl, by go_num, o3, hr3, g3⟩
      case measure => simp [intOf]; omega
    · obtain rfl : k = N + 1 := by omega
      have hsz : w.heap.size ≤ wr.heap.size := g1.size
      obtain ⟨gO, c, rfl, hgO, hgO2⟩ := ho.pos (by rw [HXL.out]; omega)
      rw [HXL.out] at ho ⊢
      go_wp2_with fail
      refine (pick_c r (m + 1 + (N + 1)) 3 wr hr1 (by omega) (by omega) (by omega)).mono ?_
      rintro e w2 ⟨z, rfl, hz0, hz1, hr2, hg2, hz2⟩
      have g2 := grown_pick g1 hg2
      have o2 := ho.pick hrl hg2
      have hgO3 : gO < w2.heap.size := by omega
      clear hz2 hg2 g1 ho hr1 hgO2 hsz
      by_cases hz : z = 0
      · subst hz
        go_wp2_with fail
        go_loopw [10] (fun i wr => ∃ (k : Nat) (ys : List Int), k ≤ N + 1 ∧ Hid (ys.length = N + 1) ∧ i = .int .i64 k ∧ Own w.heap.size wr (.slice (some ⟨gO, 0, none⟩) (N + 1) c) ys ∧ Rdr wr r (m + 1 + (N + 1) + 1 + k) ∧ w.grownBy wr (some r) ∧ Hid (gO < wr.heap.size)) (fun i _ => N + 1 - (intOf i).toNat)
        case atStart => exact ⟨0, xs, Nat.zero_le _, HXL, rfl, o2, hr2, g2, hgO3⟩
        case round =>
          clear o2 hr2 g2
          obtain ⟨k, ys, hk, HYL, rfl, ho, hr1, g1, hgo⟩ := hrel
          by_cases hlt : k < N + 1
          · go_wp2_with fail
            refine (pick_c r (m + 1 + (N + 1) + 1 + k) ((k : Int) + 1) wr hr1 (by omega) (by omega) (by omega)).mono ?_
            rintro e w3 ⟨z, rfl, hz0, hz1, hr3, hg3, hz3⟩
            have g3 := grown_pick g1 hg3
            have o3 := ho.pick hrl hg3
            have hgo3 := hid (show gO < w3.heap.size by have := hgo.out; omega)
            obtain ⟨Z, rfl⟩ := Int.eq_ofNat_of_zero_le hz0
            have hZN : Z < N + 1 := by omega
            have hcZ := o3.cell (k := Z) (by rw [HYL.out]; exact hZN)
            have hck := o3.cell (k := k) (by rw [HYL.out]; exact hlt)
            have hfk := o3.frozen k
            have hs1 := o3.store k (nth ys Z)
            have bs1 := (Below.refl w.heap.size w3).setCell (p := ⟨gO, k, none⟩) hgO (.int .i64 (nth ys Z))
            have hcZ2 := hs1.cell (k := Z) (by rw [List.length_set, HYL.out]; exact hZN)
            have hfZ2 := hs1.frozen Z
            have hs2 := hs1.store Z (k : Int)
            have bs2 := bs1.setCell (p := ⟨gO, Z, none⟩) hgO (.int .i64 (k : Int))
            have HR := hid (And.intro hs2 (And.intro (hr3.below bs2 hrl) (grown_step g3 bs2 (Nat.le_refl _))))
            have HL2 := hid (show ((ys.set k (nth ys Z)).set Z (k : Int)).length = N + 1 by rw [List.length_set, List.length_set, HYL.out])
            clear hz3 hg3 g1 ho hr1 g3 o3 hs1 hs2 bs1 bs2 hr3
            generalize nth (ys.set k (nth ys Z)) Z = Q at *
            generalize nth ys Z = P at *
            go_wp2_with fail
            go_roundw
            case rel => exact ⟨k + 1, _, by omega, HL2, by go_num, HR.out.1, HR.out.2.1, HR.out.2.2, hid (by simpa [World.setCell] using hgo3.out)⟩
            case measure => simp [intOf]; omega
          · obtain rfl : k = N + 1 := by omega
            have hgo' := hgo.out
            go_wp2_with fail
            refine (odd_c r (m + 1 + (N + 1) + 1 + (N + 1)) n wr hr1 (by omega) (by omega) (by omega)).mono ?_
            rintro e w5 ⟨b, rfl, hr5, hg5, hz5⟩
            have g5 := grown_pick g1 hg5
            have o5 := ho.pick hrl hg5
            have hsz5 : w.heap.size ≤ w5.heap.size := g5.size
            have hgO5 : gO < w5.heap.size := by omega
            clear hz5 hg5 g1 ho hr1
            cases b
            · go_wp2_with fail
              go_ret
              exact drawn_own (by have := HYL.out; omega) o5 (hr5.more (by omega)) g5
            · go_wp2_with fail
              refine (pick_c r (m + 1 + (N + 1) + 1 + (N + 1) + 1) 3 w5 hr5 (by omega) (by omega) (by omega)).mono ?_
              rintro e w6 ⟨y, rfl, hy0, hy1, hr6, hg6, hz6⟩
              have g6 := grown_pick g5 hg6
              have o6 := o5.pick hrl hg6
              have hsz6 : w.heap.size ≤ w6.heap.size := g6.size
              have hgO6 : gO < w6.heap.size := by omega
              clear hz6 hg6 g5 o5 hr5
              by_cases hy : y = 0
              · subst hy
                have o7 := (Own.new_ w6 [] #[] rfl (by decide)).mono hsz6
                have b7 : Below w.heap.size w6 (w6.alloc (.cells #[] 3)) := (Below.refl _ _).alloc hsz6 _
                have hr7 := hr6.below b7 hrl
                have g7 := grown_step g6 b7 (Nat.le_refl _)
                clear b7 o6 g6 hr6
                go_wp2_with fail
                go_ret
                exact drawn_own (by simp) o7 (hr7.more (by omega)) g7
              · by_cases hy2 : y = 1
                · subst hy2
                  clear hy
                  go_wp2_with fail
                  have b7 : Below w.heap.size w6 (w6.alloc (.cells #[.int .i64 (-1), .int .i64 (1 + (N : Int))] 3)) := (Below.refl _ _).alloc hsz6 _
                  have hc7 := cell_two w6 (-1) (1 + (N : Int))
                  refine (pick_c r (m + 1 + (N + 1) + 1 + (N + 1) + 1 + 1) 2 _ (hr6.below b7 hrl) (by omega) (by omega) (by omega)).mono ?_
                  rintro e w8 ⟨u, rfl, hu0, hu1, hr8, hg8, hz8⟩
                  have g8 := grown_pick (grown_step g6 b7 (Nat.le_refl _)) hg8
                  have o8 := (o6.alloc (.cells #[.int .i64 (-1), .int .i64 (1 + (N : Int))] 3)).pick hrl hg8
                  have k1 := hg8.cell hc7.1 (by simp; omega)
                  have k2 := hg8.cell hc7.2 (by simp; omega)
                  have hc9 := o8.cell (k := 0) (by have := HYL.out; omega)
                  have hf9 := o8.frozen 0
                  have hs1 := o8.store 0 (-1)
                  have hs2 := o8.store 0 (1 + (N : Int))
                  have bs1 := (Below.refl w.heap.size w8).setCell (p := ⟨gO, 0, none⟩) hgO (.int .i64 (-1))
                  have bs2 := (Below.refl w.heap.size w8).setCell (p := ⟨gO, 0, none⟩) hgO (.int .i64 (1 + (N : Int)))
                  have HR := hid (And.intro hs1 (And.intro hs2 (And.intro (hr8.below bs1 hrl) (And.intro (hr8.below bs2 hrl) (And.intro (grown_step g8 bs1 (Nat.le_refl _)) (grown_step g8 bs2 (Nat.le_refl _)))))))
                  clear hz8 hg8 b7 hc7 o6 g6 hr6 o8 hs1 hs2 bs1 bs2 hr8 g8
                  have hu : u = 0 ∨ u = 1 := by omega
                  rcases hu with rfl | rfl
                  · go_wp2_with fail
                    go_ret
                    exact drawn_own (by rw [List.length_set]; have := HYL.out; omega) HR.out.1 (HR.out.2.2.1.more (by omega)) HR.out.2.2.2.2.1
                  · go_wp2_with fail
                    go_ret
                    exact drawn_own (by rw [List.length_set]; have := HYL.out; omega) HR.out.2.1 (HR.out.2.2.2.1.more (by omega)) HR.out.2.2.2.2.2
                · have q1 : (y == 0) = false := by simpa using hy
                  have q2 : (y == 1) = false := by simpa using hy2
                  clear hy hy2 o6
                  go_wp2_with (at_make; refine wpList_mk _ rfl _ _ rfl _ 8 rfl rfl rfl (by omega) ?_; intro w7 o7 b7)
                  have g7 := grown_step g6 b7 hsz6
                  have hr7 := hr6.below b7 (by omega)
                  have o7' := o7.mono hsz6
                  clear b7 o7
                  go_wp2_with fail
                  go_ret
                  exact drawn_own (by simp) o7' (hr7.more (by omega)) g7
      · have hzb : (z == 0) = false := by simpa using hz
        clear hz
        go_wp2_with fail
        refine (odd_c r (m + 1 + (N + 1) + 1) n w2 hr2 (by omega) (by omega) (by omega)).mono ?_
        rintro e w5 ⟨b, rfl, hr5, hg5, hz5⟩
        have g5 := grown_pick g2 hg5
        have o5 := o2.pick hrl hg5
        have hsz5 : w.heap.size ≤ w5.heap.size := g5.size
        have hgO5 : gO < w5.heap.size := by omega
        clear hz5 hg5 g2 o2 hr2
        cases b
        · go_wp2_with fail
          go_ret
          exact drawn_own (by have := HXL.out; omega) o5 (hr5.more (by omega)) g5
        · go_wp2_with fail
          refine (pick_c r (m + 1 + (N + 1) + 1 + 1) 3 w5 hr5 (by omega) (by omega) (by omega)).mono ?_
          rintro e w6 ⟨y, rfl, hy0, hy1, hr6, hg6, hz6⟩
          have g6 := grown_pick g5 hg6
          have o6 := o5.pick hrl hg6
          have hsz6 : w.heap.size ≤ w6.heap.size := g6.size
          have hgO6 : gO < w6.heap.size := by omega
          clear hz6 hg6 g5 o5 hr5
          by_cases hy : y = 0
          · subst hy
            have o7 := (Own.new_ w6 [] #[] rfl (by decide)).mono hsz6
            have b7 : Below w.heap.size w6 (w6.alloc (.cells #[] 3)) := (Below.refl _ _).alloc hsz6 _
            have hr7 := hr6.below b7 hrl
            have g7 := grown_step g6 b7 (Nat.le_refl _)
            clear b7 o6 g6 hr6
            go_wp2_with fail
            go_ret
            exact drawn_own (by simp) o7 (hr7.more (by omega)) g7
          · by_cases hy2 : y = 1
            · subst hy2
              clear hy
              go_wp2_with fail
              have b7 : Below w.heap.size w6 (w6.alloc (.cells #[.int .i64 (-1), .int .i64 (1 + (N : Int))] 3)) := (Below.refl _ _).alloc hsz6 _
              have hc7 := cell_two w6 (-1) (1 + (N : Int))
              refine (pick_c r (m + 1 + (N + 1) + 1 + 1 + 1) 2 _ (hr6.below b7 hrl) (by omega) (by omega) (by omega)).mono ?_
              rintro e w8 ⟨u, rfl, hu0, hu1, hr8, hg8, hz8⟩
              have g8 := grown_pick (grown_step g6 b7 (Nat.le_refl _)) hg8
              have o8 := (o6.alloc (.cells #[.int .i64 (-1), .int .i64 (1 + (N : Int))] 3)).pick hrl hg8
              have k1 := hg8.cell hc7.1 (by simp; omega)
              have k2 := hg8.cell hc7.2 (by simp; omega)
              have hc9 := o8.cell (k := 0) (by have := HXL.out; omega)
              have hf9 := o8.frozen 0
              have hs1 := o8.store 0 (-1)
              have hs2 := o8.store 0 (1 + (N : Int))
              have bs1 := (Below.refl w.heap.size w8).setCell (p := ⟨gO, 0, none⟩) hgO (.int .i64 (-1))
              have bs2 := (Below.refl w.heap.size w8).setCell (p := ⟨gO, 0, none⟩) hgO (.int .i64 (1 + (N : Int)))
              have HR := hid (And.intro hs1 (And.intro hs2 (And.intro (hr8.below bs1 hrl) (And.intro (hr8.below bs2 hrl) (And.intro (grown_step g8 bs1 (Nat.le_refl _)) (grown_step g8 bs2 (Nat.le_refl _)))))))
              clear hz8 hg8 b7 hc7 o6 g6 hr6 o8 hs1 hs2 bs1 bs2 hr8 g8
              have hu : u = 0 ∨ u = 1 := by omega
              rcases hu with rfl | rfl
              · go_wp2_with fail
                go_ret
                exact drawn_own (by rw [List.length_set]; have := HXL.out; omega) HR.out.1 (HR.out.2.2.1.more (by omega)) HR.out.2.2.2.2.1
              · go_wp2_with fail
                go_ret
                exact drawn_own (by rw [List.length_set]; have := HXL.out; omega) HR.out.2.1 (HR.out.2.2.2.1.more (by omega)) HR.out.2.2.2.2.2
            · have q1 : (y == 0) = false := by simpa using hy
              have q2 : (y == 1) = false := by simpa using hy2
              clear hy hy2 o6
              go_wp2_with (at_make; refine wpList_mk _ rfl _ _ rfl _ 8 rfl rfl rfl (by omega) ?_; intro w7 o7 b7)
              have g7 := grown_step g6 b7 hsz6
              have hr7 := hr6.below b7 (by omega)
              have o7' := o7.mono hsz6
              clear b7 o7
              go_wp2_with fail
              go_ret
              exact drawn_own (by simp) o7' (hr7.more (by omega)) g7






theorem DrawShapeText_c (a : Option Addr) (len cap : Nat) (zs : List Int) (w : World) (h : RowIn .u8 w a len cap zs) (hn : len ≤ 1048576) :
    Calls Try.prog 15 #[.slice a len cap] w (DrawR w 8) := by
  have ho := open_c a len cap zs w h hn
  clear h
  go_enter Try.func15, Try.ntmps15
  go_wp2_with fail
  refine ho.mono ?_
  rintro e w1 ⟨r, rfl, hr, hb, hr0, hr1⟩
  go_wp2_with fail
  refine (l20Map_c r 0 7 9 w1 hr (by omega) (by omega) (by omega) (by omega) (by omega)).mono ?_
  rintro e w2 ⟨xs, A, c, hx, rfl, ho2, hr2, hg2⟩
  go_wp2_with fail
  go_ret
  exact ⟨xs, A, c, hx, rfl, ho2.mono hb.size, below_pick hb hr0 hb.size hg2⟩

end Go.Proofs.Ytjipecfoiddkjaa
