/- The draws of names, of two maps, of turns, of a map and a thing. -/
import Derived.Test.YtjipecfoiddkjaaD4
import Derived.Test.YtjipecfoiddkjaaQ2
namespace Go.Proofs.Ytjipecfoiddkjaa
open Go.RowKit
set_option linter.unusedVariables false

theorem DrawnR.le {w w' : World} {r m d d' n : Nat} {e : Ending} (h : DrawnR w r m d n e w') (hd : d ≤ d') : DrawnR w r m d' n e w' := by
  obtain ⟨xs, A, c, h1, h2, h3, h4, h5⟩ := h
  exact ⟨xs, A, c, h1, h2, h3, h4.more (by omega), h5⟩

set_option maxHeartbeats 2000000 in
theorem l20Names_c (r m n : Nat) (w : World) (hr : Rdr w r m) (hm : m ≤ 1000) (hn : n ≤ 8) :
    Calls Try.prog 26 #[.pointer (some ⟨r, 0, none⟩), .int .i64 n] w (DrawnR w r m 8 8) := by
  have hrl := hr.lt
  have o0 := own_empty w
  have b0 : Below w.heap.size w (w.alloc (.cells #[] 3)) := (Below.refl _ _).alloc (Nat.le_refl _) _
  have hr0 := hr.below b0 hrl
  have g0 := grown_of_below b0 (some r)
  clear hr b0
  go_enter Try.func26, Try.ntmps26
  go_wp2_with fail
  go_loopw [5, 6] (fun v i wr => ∃ (k : Nat) (xs : List Int), k ≤ n ∧ Hid (xs.length = k) ∧ i = .int .i64 k ∧ Own w.heap.size wr v xs ∧ Rdr wr r (m + k) ∧ w.grownBy wr (some r)) (fun _ i _ => n - (intOf i).toNat)
  case atStart => exact ⟨0, [], Nat.zero_le _, rfl, rfl, o0, hr0, g0⟩
  case round =>
    clear o0 hr0 g0
    obtain ⟨k, xs, hk, HXL, rfl, ho, hr1, g1⟩ := hrel
    by_cases hlt : k < n
    · go_wp2_with fail
      refine (pick_c r (m + k) ((k : Int) + 1) wr hr1 (by omega) (by omega) (by omega)).mono ?_
      rintro e w2 ⟨z, rfl, hz0, hz1, hr2, hg2, hz2⟩
      have g2 := grown_pick g1 hg2
      have o2 := ho.pick hrl hg2
      have hsz : w.heap.size ≤ w2.heap.size := g2.size
      obtain ⟨Z, rfl⟩ := Int.eq_ofNat_of_zero_le hz0
      clear hz2 hg2 g1 ho hr1
      go_wp2_with (at_builtin; refine wpList_app1 _ rfl _ _ rfl w.heap.size _ xs rfl (o2.alloc _) w2.heap.size (k : Int) rfl (cell_one1 _ _ _) (by have := HXL.out; omega) (by simp; omega) ?_; intro A3 c3 w3 o3 b3)
      have b3' : Below w.heap.size w2 w3 := ((Below.refl _ w2).alloc hsz _).trans b3
      have hr3 := hr2.below b3' hrl
      have g3 := grown_step g2 b3' (Nat.le_refl _)
      clear b3 b3' hr2 g2 o2
      obtain ⟨gO, c', e9, hgO, -⟩ := o3.pos (by simp)
      rw [List.length_append, show [((k : Nat) : Int)].length = 1 from rfl] at e9
      cases e9
      have HY := hid (show (xs ++ [(k : Int)]).length = k + 1 by rw [List.length_append, HXL.out]; rfl)
      rw [HXL.out] at o3 ⊢
      generalize xs ++ [(k : Int)] = ys at *
      clear HXL
      go_wp2_with fail
      go_loopw [8] (fun i wr' => ∃ (j : Nat) (zs : List Int), Z ≤ j ∧ j ≤ k ∧ i = .int .i64 j ∧ Hid (zs.length = k + 1) ∧ Own w.heap.size wr' (.slice (some ⟨gO, 0, none⟩) (k + 1) c3) zs ∧ Rdr wr' r (m + k + 1) ∧ w.grownBy wr' (some r)) (fun i _ => (intOf i).toNat)
      case atStart => exact ⟨k, ys, by omega, Nat.le_refl _, rfl, HY, o3, hr3, g3⟩
      case round =>
        clear o3 hr3 g3
        obtain ⟨j, zs, hj1, hj2, rfl, HZ, ho, hr1, g1⟩ := hrel
        by_cases hjz : Z < j
        · have e1 : (j : Int) - 1 = ((j - 1 : Nat) : Int) := by omega
          have hc1 := ho.cell (k := j - 1) (by rw [HZ.out]; omega)
          have hc2 := ho.cell (k := j) (by rw [HZ.out]; omega)
          have hf2 := ho.frozen j
          have hs1 := ho.store j (nth zs (j - 1))
          have bs1 := (Below.refl w.heap.size wr).setCell (p := ⟨gO, j, none⟩) hgO (.int .i64 (nth zs (j - 1)))
          have HR := hid (And.intro hs1 (And.intro (hr1.below bs1 hrl) (grown_step g1 bs1 (Nat.le_refl _))))
          have HL := hid (show (zs.set j (nth zs (j - 1))).length = k + 1 by rw [List.length_set, HZ.out])
          clear ho hr1 g1 hs1 bs1
          generalize nth zs (j - 1) = X at *
          generalize hJ : j - 1 = J at *
          have KJ := hid hJ
          clear hJ
          have hJk : J < k + 1 := by have := KJ.out; omega
          go_wp2_with fail
          go_roundw
          case rel => exact ⟨J, _, by have := KJ.out; omega, by have := KJ.out; omega, rfl, HL, HR.out.1, HR.out.2.1, HR.out.2.2⟩
          case measure => simp [intOf]; have := KJ.out; omega
        · obtain rfl : j = Z := by omega
          have hc2 := ho.cell (k := j) (by rw [HZ.out]; omega)
          have hf2 := ho.frozen j
          have hs1 := ho.store j (k : Int)
          have bs1 := (Below.refl w.heap.size wr).setCell (p := ⟨gO, j, none⟩) hgO (.int .i64 (k : Int))
          have HR := hid (And.intro hs1 (And.intro (hr1.below bs1 hrl) (grown_step g1 bs1 (Nat.le_refl _))))
          have HL := hid (show (zs.set j (k : Int)).length = k + 1 by rw [List.length_set, HZ.out])
          clear ho hr1 g1 hs1 bs1
          go_wp2_with fail
          go_roundw
          case rel => exact ⟨k + 1, _, by omega, HL, by go_num, HR.out.1, HR.out.2.1, HR.out.2.2⟩
          case measure => simp [intOf]; omega
    · obtain rfl : k = n := by omega
      have hxl := HXL.out
      have H := hid (drawn_own (r := r) (m := m) (d := 8) (n := 8) (by omega) ho (hr1.more (by omega)) g1)
      obtain ⟨A, c, rfl, -⟩ := ho.form
      clear hxl ho hr1 g1
      go_wp2_with fail
      go_ret
      exact H.out

/-- two new slices; the reader goes on by at most d -/
def DrawnR2 (w : World) (r m d n : Nat) (e : Ending) (w' : World) : Prop :=
  ∃ (xs ys : List Int) (A B : Option Addr) (c c' : Nat), xs.length ≤ n ∧ ys.length ≤ n + 1 ∧ e = .returned (.tuple #[.slice A xs.length c, .slice B ys.length c']) ∧ Own w.heap.size w' (.slice A xs.length c) xs ∧ Own w.heap.size w' (.slice B ys.length c') ys ∧ Rdr w' r (m + d) ∧ w.grownBy w' (some r)
theorem drawn2_own {w w' : World} {r m d n : Nat} {xs ys : List Int} {A B : Option Addr} {k l c c' : Nat} (hx : xs.length ≤ n) (hy : ys.length ≤ n + 1) (ho : Own w.heap.size w' (.slice A k c) xs) (ho' : Own w.heap.size w' (.slice B l c') ys) (hr : Rdr w' r (m + d)) (hg : w.grownBy w' (some r)) : DrawnR2 w r m d n (.returned (.tuple #[.slice A k c, .slice B l c'])) w' := by
  obtain rfl := ho.len
  obtain rfl := ho'.len
  exact ⟨xs, ys, A, B, c, c', hx, hy, rfl, ho, ho', hr, hg⟩

theorem Own.keep {B B' : Nat} {w w' : World} {v : Value} {xs : List Int} (h : Own B w v xs) (hlt : ∀ g, v.ownBlock = some g → g < B') (hb : Below B' w w') : Own B w' v xs := by
  refine ⟨h.1, ?_⟩
  rcases h.2 with h2 | ⟨g, cap, cur, hv, hg, hh, r⟩
  · exact .inl h2
  · exact .inr ⟨g, cap, cur, hv, hg, (hb.block g (hlt g (by rw [hv]; rfl))).trans hh, r⟩



/-- a slice and a small number -/
def DrawnI (w : World) (r m d n : Nat) (e : Ending) (w' : World) : Prop :=
  ∃ (xs : List Int) (A : Option Addr) (c : Nat) (z : Int), xs.length ≤ n ∧ -100 ≤ z ∧ z ≤ 100 ∧ e = .returned (.tuple #[.slice A xs.length c, .int .i64 z]) ∧ Own w.heap.size w' (.slice A xs.length c) xs ∧ Rdr w' r (m + d) ∧ w.grownBy w' (some r)
def DrawI (w : World) (n : Nat) (e : Ending) (w' : World) : Prop :=
  ∃ (xs : List Int) (A : Option Addr) (c : Nat) (z : Int), xs.length ≤ n ∧ -100 ≤ z ∧ z ≤ 100 ∧ e = .returned (.tuple #[.slice A xs.length c, .int .i64 z]) ∧ Own w.heap.size w' (.slice A xs.length c) xs ∧ Below w.heap.size w w'

theorem Own.rdr {B r m : Nat} {w w' : World} {v : Value} {xs : List Int} (h : Own B w v xs) (hr : Rdr w r m) (hg : w.grownBy w' (some r)) : Own B w' v xs := h.kept hg (by
  rcases h.2 with ⟨rfl, _⟩ | ⟨g, cap, cur, rfl, _, hh, _⟩
  · exact .inl rfl
  · right
    intro e
    obtain rfl : g = r := by simpa [Value.ownBlock] using e
    obtain ⟨_, _, _, _, hb, _⟩ := hr
    rw [hb] at hh
    simp at hh)
def DrawR2 (w : World) (n : Nat) (e : Ending) (w' : World) : Prop :=
  ∃ (xs ys : List Int) (A B : Option Addr) (c c' : Nat), xs.length ≤ n ∧ ys.length ≤ n + 1 ∧ e = .returned (.tuple #[.slice A xs.length c, .slice B ys.length c']) ∧ Own w.heap.size w' (.slice A xs.length c) xs ∧ Own w.heap.size w' (.slice B ys.length c') ys ∧ Below w.heap.size w w'

end Go.Proofs.Ytjipecfoiddkjaa
