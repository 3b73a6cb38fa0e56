/- Contracts of chapter 6: two loops laid between each other. -/
import Derived.Test.YtenmgiocbdabdaaS5
import Derived.Test.YtenmgiocbdabdaaS7
import Derived.Test.YtenmgiocbdabdaaD1
namespace Go.Proofs.Ytenmgiocbdabdaa
open Go.RowKit
set_option linter.unusedVariables false

/-- a slice that reads as xs and lies in no cell of block g -/
def RdX (w : World) (g : Nat) (A : Option Addr) (xs : List Int) : Prop := ∀ k, k < xs.length → ∃ ad, A = some ad ∧ ad.block ≠ g ∧ w.cell? (ad.add k) = some (.int .i64 (nth xs k))
theorem RdX.grown {w w' : World} {g : Nat} {A : Option Addr} {xs : List Int} (h : RdX w g A xs) (hg : w.grownBy w' (some g)) : RdX w' g A xs := fun k hk => by
  obtain ⟨ad, e, hne, hc⟩ := h k hk
  refine ⟨ad, e, hne, ?_⟩
  have hlt := lt_of_cell hc
  rw [World.cell?_of_block (hg.block _ hlt (by rw [block_of_add]; intro h; injection h with h; exact hne h))]
  exact hc
theorem RdX.set {w : World} {g : Nat} {A : Option Addr} {xs : List Int} (h : RdX w g A xs) (i : Nat) (u : Value) : RdX (w.setCell ⟨g, i, none⟩ u) g A xs := h.grown (grown_store (World.grownBy.refl _ _) i u)
/-- the things of the j-th loop, read -/
theorem gl_len' {f : List Int} (hf : Good f) {j : Nat} (h : j < (mins f).length) : (gl (loopsLL f) j).length = lj f j := gl_long hf h

set_option maxHeartbeats 2000000 in
theorem layBetween_c (B g c d d' : Nat) (f G : List Int) (a j : Nat) (D E : Option Addr) (w : World) (hf : Good f) (hG : G.length = f.length) (ha : a < (mins f).length) (hj : j < (mins f).length) (hl : lj f a = lj f j)
    (hown : Own B w (.slice (some ⟨g, 0, none⟩) f.length c) G) (hD : RdX w g D (gl (loopsLL f) a)) (hE : RdX w g E (gl (loopsLL f) j)) :
    Calls Try.prog 148 #[.slice (some ⟨g, 0, none⟩) f.length c, .slice D (lj f j) d, .slice E (lj f j) d'] w fun e w' => e = .returned (.tuple #[]) ∧
      Own B w' (.slice (some ⟨g, 0, none⟩) f.length c) (layE f G a j (lj f j)) ∧ w.grownBy w' (some g) ∧ w'.heap.size = w.heap.size := by
  have hlp := lj_pos hf hj
  have hll := lj_le hf hj
  have h7 := hf.1.2
  have HD := hid hD
  have HE := hid hE
  have HA := hid (show ∀ k, k < lj f j → k < (gl (loopsLL f) a).length ∧ nth (gl (loopsLL f) a) k = (it f k (tj f a) : Int) from fun k hk => ⟨by rw [gl_long hf ha, hl]; exact hk, gl_nth hf ha (by rw [hl]; exact hk)⟩)
  have HJ := hid (show ∀ k, k < lj f j → k < (gl (loopsLL f) j).length ∧ nth (gl (loopsLL f) j) k = (it f k (tj f j) : Int) from fun k hk => ⟨by rw [gl_long hf hj]; exact hk, gl_nth hf hj hk⟩)
  have HX := hid (fun k => hf.it_lt (tj_mem ha).1 k)
  have HY := hid (fun k => hf.it_lt (tj_mem hj).1 k)
  have HZ := hid (show ∀ k, it f ((k + 1) % lj f j) (tj f a) = it f (k + 1) (tj f a) from fun k => by rw [← hl]; exact it_mod_tj hf ha (k + 1))
  have HLE := hid (fun k => layE_len f G a j k)
  have HG := hid hG
  clear hD hE hf hG ha hj hl
  generalize hLL : lj f j = l at *
  go_enter Try.func148, Try.ntmps148
  go_wp2_with fail
  go_loopw [10] (fun i wr => ∃ k : Nat, k ≤ l ∧ i = .int .i64 k ∧ Own B wr (.slice (some ⟨g, 0, none⟩) f.length c) (layE f G a j k) ∧ w.grownBy wr (some g) ∧ wr.heap.size = w.heap.size) (fun i _ => l - (intOf i).toNat)
  case atStart => exact ⟨0, Nat.zero_le _, rfl, hown, World.grownBy.refl _ _, rfl⟩
  case round =>
    clear hown
    obtain ⟨k, hk, rfl, hown, hg, hz⟩ := hrel
    have HSZ := hid hz
    clear hz
    by_cases hlt : k < l
    · have hX := HX.out k
      have hY := HY.out k
      have hZ := HX.out (k + 1)
      have hmod := Nat.mod_lt (k + 1) (show 0 < l by omega)
      have dD := HD.out.grown hg
      have dE := HE.out.grown hg
      have hcX := hown.cell (k := it f k (tj f a)) (by rw [HLE.out, HG.out]; exact hX)
      have hfX := hown.frozen (it f k (tj f a))
      have hs1 := hown.store (it f k (tj f a)) (it f k (tj f j) : Int)
      have hcY := hs1.cell (k := it f k (tj f j)) (by rw [List.length_set, HLE.out, HG.out]; exact hY)
      have hfY := hs1.frozen (it f k (tj f j))
      have hs2 := hs1.store (it f k (tj f j)) (it f (k + 1) (tj f a) : Int)
      rw [show ((layE f G a j k).set (it f k (tj f a)) (it f k (tj f j) : Int)).set (it f k (tj f j)) (it f (k + 1) (tj f a) : Int) = layE f G a j (k + 1) from rfl] at hs2
      have hg1 := grown_store hg (it f k (tj f a)) (.int .i64 (it f k (tj f j) : Int))
      have hg2 := grown_store hg1 (it f k (tj f j)) (.int .i64 (it f (k + 1) (tj f a) : Int))
      have dD1 := dD.set (it f k (tj f a)) (.int .i64 (it f k (tj f j) : Int))
      have dE1 := dE.set (it f k (tj f a)) (.int .i64 (it f k (tj f j) : Int))
      obtain ⟨ad, rfl, -, r1⟩ := dD k (HA.out k hlt).1
      rw [(HA.out k hlt).2] at r1
      obtain ⟨ed, rfl, -, r2⟩ := dE k (HJ.out k hlt).1
      rw [(HJ.out k hlt).2] at r2
      obtain ⟨ed', e9, -, r3⟩ := dE1 k (HJ.out k hlt).1
      rw [(HJ.out k hlt).2] at r3
      cases e9
      obtain ⟨ad', e9, -, r4⟩ := dD1 ((k + 1) % l) (HA.out _ hmod).1
      rw [(HA.out _ hmod).2, HZ.out k] at r4
      cases e9
      have HR := hid (And.intro hs2 hg2)
      have a1 : 0 ≤ ((k : Int) + 1) % (l : Int) := Int.emod_nonneg _ (by omega)
      have a2 : ((k : Int) + 1) % (l : Int) < (l : Int) := Int.emod_lt_of_pos _ (by omega)
      clear hown hg hs1 hs2 hg1 hg2 dD dE dD1 dE1 hmod
      generalize it f (k + 1) (tj f a) = Z at *
      generalize it f k (tj f a) = X at *
      generalize it f k (tj f j) = Y at *
      go_wp2
      go_region
      all_goals go_wp2
      all_goals go_roundw
      case rel => exact ⟨k + 1, by omega, by go_num, by first | exact HR.out.1 | exact HR.out.1.drew, by first | exact HR.out.2 | exact grown_drewN HR.out.2 1, by simpa [World.setCell, World.drew] using HSZ.out⟩
      case measure => simp [intOf]; omega
    · obtain rfl : k = l := by omega
      go_wp2
      refine bodyPost_end (results_none rfl _ _ _) rfl ?_
      exact ⟨rfl, hown, hg, HSZ.out⟩

end Go.Proofs.Ytenmgiocbdabdaa
