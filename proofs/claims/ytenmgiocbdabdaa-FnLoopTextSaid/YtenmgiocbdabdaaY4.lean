/- Contracts of chapter 2: the lots of all things. -/
import Derived.Test.YtenmgiocbdabdaaX8
import Derived.Test.YtenmgiocbdabdaaY3
namespace Go.Proofs.Ytenmgiocbdabdaa
open Go.RowKit
set_option linter.unusedVariables false

/-- the first k lots; the rest naught -/
def lotN (f : List Int) (k : Nat) : List Int := (List.range f.length).map fun i => if i < k then (loopOf f i : Int) else 0
def lotsL (f : List Int) : List Int := if mapOkB f = true then lotN f f.length else []
theorem lotN_len (f : List Int) (k : Nat) : (lotN f k).length = f.length := by simp [lotN]
theorem lotN_set {f : List Int} {k : Nat} (hk : k < f.length) : (lotN f k).set k (loopOf f k : Int) = lotN f (k + 1) := by
  apply List.ext_getElem
  · simp [lotN]
  · intro i h1 h2
    rw [List.getElem_set]
    simp only [lotN, List.getElem_map, List.getElem_range]
    by_cases h : k = i
    · subst h
      rw [if_pos rfl, if_pos (by omega)]
    · rw [if_neg h]
      by_cases h3 : i < k
      · rw [if_pos h3, if_pos (by omega)]
      · rw [if_neg h3, if_neg (by omega)]
theorem lotN_zero (f : List Int) : lotN f 0 = List.replicate f.length 0 := by
  apply List.ext_getElem
  · simp [lotN]
  · intro i h1 h2
    simp [lotN]
theorem lotN_at {f : List Int} {k : Nat} (hk : k < f.length) : nth (lotN f f.length) k = (loopOf f k : Int) := by
  rw [nth_lt (by rw [lotN_len]; exact hk)]
  simp [lotN, hk]
set_option maxHeartbeats 1000000 in
theorem iLotsOf_c (A : Option Addr) (c : Nat) (f : List Int) (w : World) (hR : RdA w A f) (hn : f.length ≤ 1048577) :
    Calls Try.prog 105 #[.slice A f.length c] w (RetI w (lotsL f)) := by
  have c1 := iMapOk_c A c f w hR hn
  by_cases hf : mapOkB f = true
  · rw [hf] at c1
    have hg := good_of hf
    have h7 := hg.1.2
    have HE := hid (show lotsL f = lotN f f.length from if_pos hf)
    have HZ := hid (lotN_zero f)
    have HLN := hid (lotN_len f)
    have HS := hid (fun k (h : k < f.length) => lotN_set h)
    have C2 := hid (fun (k : Nat) W (hk : k < f.length) (hb : Below w.heap.size w W) => by have := iLoopOf_c A c f (k : Int) W (hR.below hb) hn; rw [lotV_yes (th_of hg hk)] at this; exact this)
    clear hf hg hR
    go_enter Try.func105, Try.ntmps105
    go_wp2_with fail
    refine c1.mono ?_; rintro e w' ⟨rfl, rfl⟩
    clear c1
    go_wp2_with (at_make; refine wpList_mk _ rfl _ _ rfl _ f.length rfl rfl rfl (by omega) ?_; intro w1 hown hb)
    rw [← HZ.out] at hown
    go_wp2_with fail
    go_loopw [13] (fun i wr => ∃ k : Nat, k ≤ f.length ∧ i = .int .i64 k ∧ Own w.heap.size wr (.slice (some ⟨w.heap.size, 0, none⟩) f.length f.length) (lotN f k) ∧ Below w.heap.size w wr) (fun i _ => f.length - (intOf i).toNat)
    case atStart => exact ⟨0, Nat.zero_le _, rfl, hown, hb⟩
    case round =>
      clear hown hb
      obtain ⟨k, hk, rfl, hown, hb⟩ := hrel
      by_cases hlt : k < f.length
      · have K2 := hid (C2.out k wr hlt hb)
        have HN := hid (HS.out k hlt)
        have HK := hid (HLN.out k)
        generalize loopOf f k = lo at *
        go_wp2_with fail
        refine K2.out.mono ?_; rintro e w2 ⟨rfl, b2⟩
        have hown2 := hown.below b2
        have hb2 := hb.trans (b2.mono hb.size)
        have hc2 := hown2.cell (k := k) (by rw [HK.out]; exact hlt)
        have hf2 := hown2.frozen k
        have hs := hown2.store k (lo : Int)
        rw [HN.out] at hs
        have hbs := hb2.setCell (p := ⟨w.heap.size, k, none⟩) (Nat.le_refl _) (.int .i64 (lo : Int))
        clear hown hb hown2 hb2 K2
        go_wp2_with fail
        go_roundw
        case rel => exact ⟨k + 1, by omega, by go_num, hs, hbs⟩
        case measure => simp [intOf]; omega
      · obtain rfl : k = f.length := by omega
        go_wp2_with fail
        go_ret
        rw [HE.out]
        exact ⟨_, _, by rw [HLN.out]; rfl, by rw [HLN.out]; exact hown, hb⟩
  · have HE := hid (show lotsL f = [] from if_neg hf)
    rw [show mapOkB f = false by simpa using hf] at c1
    clear hf hR
    go_enter Try.func105, Try.ntmps105
    go_wp2_with fail
    refine c1.mono ?_; rintro e w' ⟨rfl, rfl⟩
    go_wp2_with fail
    go_ret
    rw [HE.out]
    exact retI_own (Own.nil _ _) (Below.refl _ _)

end Go.Proofs.Ytenmgiocbdabdaa
