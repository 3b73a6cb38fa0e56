/- Contracts of chapter 5: names. -/
import Derived.Test.YtjipecfoiddkjaaQ5
namespace Go.Proofs.Ytjipecfoiddkjaa
open Go.RowKit
set_option linter.unusedVariables false

/-- k places, told by P, filled by V -/
def put (n : Nat) (P V : Nat → Nat) : Nat → List Int
  | 0 => List.replicate n 0
  | k + 1 => (put n P V k).set (P k) (V k : Int)
theorem put_len (n : Nat) (P V : Nat → Nat) : ∀ k, (put n P V k).length = n
  | 0 => by simp [put]
  | k + 1 => by simp [put, put_len n P V k]
theorem put_nth {g : List Int} (hf : Good g) (hi : Inj g) (V : Nat → Nat) : ∀ k, k ≤ g.length → ∀ j, j < k → nth (put g.length (ap g) V k) (ap g j) = (V j : Int)
  | 0, _, j, hj => by omega
  | k + 1, hk, j, hj => by
    have hl := hf.ap_lt (show k < g.length by omega)
    rw [put]
    by_cases e : j = k
    · subst e
      simp [nth, put_len, hl]
    · have hne : ap g k ≠ ap g j := fun h => e (hi j k (by omega) (by omega) h.symm)
      have := put_nth hf hi V k (by omega) j (by omega)
      simpa [nth, List.getElem?_set, hne] using this
theorem put_all {g : List Int} (hf : Good g) (hi : Inj g) (V : Nat → Nat) : put g.length (ap g) V g.length = mk g.length (fun x => V (back g x)) := by
  refine ext_nth (by rw [put_len, mk_len]) fun x hx => ?_
  rw [put_len] at hx
  obtain ⟨k, hk, rfl⟩ := inj_surj hf hi hx
  rw [put_nth hf hi V _ (Nat.le_refl _) k hk, nth_mk hx, back_ap hf hi hk]
def namedL (f g : List Int) : List Int := if mapOkB f = true ∧ turnedB g = true ∧ f.length = g.length then mk f.length (fun x => ap g (ap f (back g x))) else []
theorem named_no {f g : List Int} (h : ¬ (mapOkB f = true ∧ turnedB g = true ∧ f.length = g.length)) : namedL f g = [] := if_neg h
theorem named_yes {f g : List Int} (hf : mapOkB f = true) (hg : turnedB g = true) (hl : f.length = g.length) : namedL f g = mk f.length (fun x => ap g (ap f (back g x))) := if_pos ⟨hf, hg, hl⟩
theorem named_behind {f g : List Int} (hf : mapOkB f = true) (hg : turnedB g = true) (hl : f.length = g.length) : behindL (behindL (turnedL g) f) g = namedL f g := by
  have gf := good_of hf
  obtain ⟨gg, gi⟩ := turnedB_iff.1 hg
  have e1 : turnedL g = mk g.length (back g) := if_pos hg
  have g1 : Good (turnedL g) := by rw [e1]; exact good_mk gg.1 fun k hk => (back_spec gg gi hk).1
  have l1 : (turnedL g).length = f.length := by rw [e1, mk_len, hl]
  obtain ⟨g2, l2⟩ := good_behind g1 gf l1
  rw [behindL_good g2 gg (by omega), l2, l1, named_yes hf hg hl]
  refine mk_congr fun k hk => ?_
  rw [behindL_good g1 gf l1, ap_mk (by omega), e1, ap_mk (by omega)]

theorem named_len (f g : List Int) (h : f.length ≤ 1048577) : (namedL f g).length ≤ 1048577 := by
  unfold namedL
  split
  · rw [mk_len]; omega
  · simp
theorem Below.drewN' {B : Nat} {a w : World} (h : Below B a w) (n : Nat) : Below B a (w.drewN n) := ⟨h.os, h.tape, h.output, h.size, h.block⟩
theorem stepB {B : Nat} {w w1 w2 : World} (h : Below B w w1) (hB : B ≤ w1.heap.size) (h2 : Below w1.heap.size w1 w2) : Below B w w2 := h.trans (h2.mono hB)

set_option maxHeartbeats 1000000 in
theorem iNamedOf_c (A B : Option Addr) (c d : Nat) (f g : List Int) (w : World) (hR : RdA w A f) (hS : RdA w B g) (hn : f.length ≤ 1048577) (hm : g.length ≤ 1048577) :
    Calls Try.prog 7 #[.slice A f.length c, .slice B g.length d] w (RetN w (namedL f g)) := by
  have c1 := iMapOk_c A c f w hR hn
  have c2 := iTurnedOf_c B d g w hS hm
  by_cases hf : mapOkB f = true
  · rw [hf] at c1
    by_cases hl : f.length = g.length
    · by_cases hg : turnedB g = true
      · have HE := hid (named_yes hf hg hl)
        have gf := good_of hf
        obtain ⟨gg, gi⟩ := turnedB_iff.1 hg
        rw [hg] at c2
        have HG := hid gg
        have HI := hid gi
        have HF := hid gf
        have h1 := gf.1.1
        have h7 := gf.1.2
        have C1 := hid c1
        have C2 := hid c2
        have e1 : g.length = f.length := hl.symm
        have HL := hid hl
        rw [e1] at C2 hm ⊢
        clear hf hg gf gg gi hl c1 c2 e1
        go_enter Try.func7, Try.ntmps7
        go_wp2_with fail
        refine C1.out.mono ?_; rintro e w' ⟨rfl, rfl⟩
        go_wp2_with fail
        refine C2.out.mono ?_; rintro e w2 ⟨A2, c2, rfl, -, b2, -⟩
        clear C1 C2
        have hsz2 := b2.size
        go_wp2_with (at_make; refine wpList_mk _ rfl _ _ rfl _ f.length rfl rfl rfl (by omega) ?_; intro w1 hown0 hb0)
        have hown := hown0.mono hsz2
        have hb := b2.trans (hb0.mono hsz2)
        clear hown0 hb0
        generalize hG : w2.heap.size = G at *
        go_loopw [32] (fun i wr => ∃ k : Nat, k ≤ f.length ∧ i = .int .i64 k ∧ Own w.heap.size wr (.slice (some ⟨G, 0, none⟩) f.length f.length) (put f.length (ap g) (fun k => ap g (ap f k)) k) ∧ Below w.heap.size w wr) (fun i _ => f.length - (intOf i).toNat)
        case atStart => exact ⟨0, Nat.zero_le _, rfl, hown, hb⟩
        case round =>
          clear hown hb
          obtain ⟨k, hk, rfl, hown, hb⟩ := hrel
          by_cases hlt : k < f.length
          · obtain ⟨ad, rfl, hc⟩ := (hR.below hb) k hlt
            have hlt2 := HF.out.ap_lt hlt
            rw [HF.out.nth_ap hlt] at hc
            obtain ⟨bd, rfl, hc3⟩ := (hS.below hb) (ap f k) (by have := HL.out; omega)
            rw [HG.out.nth_ap (by have := HL.out; omega)] at hc3
            obtain ⟨bd', e9, hc4⟩ := (hS.below hb) k (by have := HL.out; omega)
            rw [HG.out.nth_ap (by have := HL.out; omega)] at hc4
            cases e9
            have hlt3 : ap g k < f.length := by have := HL.out; have := HG.out.ap_lt (k := k) (by omega); omega
            have hc2 := hown.cell (k := ap g k) (by rw [put_len]; exact hlt3)
            have hf2 := hown.frozen (ap g k)
            have hs := hown.store (ap g k) (ap g (ap f k) : Int)
            rw [show (put f.length (ap g) (fun k => ap g (ap f k)) k).set (ap g k) (ap g (ap f k) : Int) = put f.length (ap g) (fun k => ap g (ap f k)) (k + 1) from rfl] at hs
            have hbs := hb.setCell (p := ⟨G, ap g k, none⟩) hsz2 (.int .i64 (ap g (ap f k) : Int))
            clear hown hb hR hS
            generalize ap g (ap f k) = Y at *
            generalize ap g k = Z at *
            generalize ap f k = X at *
            go_wp2
            go_region
            all_goals go_wp2
            all_goals go_roundw
            case rel => exact ⟨k + 1, by omega, by go_num, by first | exact hs | exact hs.drew, by first | exact hbs | exact hbs.drew⟩
            case measure => simp [intOf]; omega
          · obtain rfl : k = f.length := by omega
            have HP := hid (put_all HG.out HI.out (fun k => ap g (ap f k)))
            rw [← HL.out] at HP
            rw [HP.out] at hown
            clear hR hS
            go_wp2
            go_ret
            exact retN_mk HE.out hown hb (by omega)
      · have HE := hid (named_no (f := f) (g := g) (fun h => hg h.2.1))
        rw [show turnedB g = false by simpa using hg] at c2
        have e1 : g.length = f.length := hl.symm
        have C2 := hid c2
        rw [e1] at C2 hm ⊢
        clear hf hg hl hR hS e1 c2
        go_enter Try.func7, Try.ntmps7
        go_wp2_with fail
        refine c1.mono ?_; rintro e w' ⟨rfl, rfl⟩
        go_wp2_with fail
        refine C2.out.mono ?_; rintro e w2 ⟨A2, c2, rfl, -, b2, -⟩
        clear C2
        go_wp2_with fail
        go_ret
        rw [HE.out]
        exact ⟨none, 0, rfl, Own.nil _ _, b2, fun _ => ⟨rfl, rfl⟩⟩
    · have HE := hid (named_no (f := f) (g := g) (fun h => hl h.2.2))
      have q1 : ((g.length : Int) == (f.length : Int)) = false := by simp; omega
      have q2 : ((f.length : Int) == (g.length : Int)) = false := by simp; omega
      clear hf hl hR hS c2
      go_enter Try.func7, Try.ntmps7
      go_wp2_with fail
      refine c1.mono ?_; rintro e w' ⟨rfl, rfl⟩
      go_wp2_with fail
      go_ret
      rw [HE.out]
      exact RetN.nil w
  · have HE := hid (named_no (f := f) (g := g) (fun h => hf h.1))
    rw [show mapOkB f = false by simpa using hf] at c1
    clear hf hR hS c2
    go_enter Try.func7, Try.ntmps7
    go_wp2_with fail
    refine c1.mono ?_; rintro e w' ⟨rfl, rfl⟩
    go_wp2_with fail
    go_ret
    rw [HE.out]
    exact RetN.nil w

set_option maxHeartbeats 1000000 in
theorem sNamedOf_c (A B : Option Addr) (c d : Nat) (f g : List Int) (w : World) (hR : RdA w A f) (hS : RdA w B g) (hn : f.length ≤ 1048577) (hm : g.length ≤ 1048577) :
    Calls Try.prog 9 #[.slice A f.length c, .slice B g.length d] w (RetI w (namedL f g)) := by
  have c2 := sTurnedOf_c B d g w hS hm
  by_cases hg : turnedB g = true
  · rw [hg] at c2
    by_cases hf : mapOkB f = true
    · by_cases hl : f.length = g.length
      · have HE := hid (named_behind hf hg hl)
        have HT := hid (show turnedL g = mk g.length (back g) from if_pos hg)
        have e1 : g.length = f.length := hl.symm
        have C2 := hid c2
        have C1 := hid (show ∀ W, Below w.heap.size w W → _ from fun W hb => sMapOk_c A c f W (hR.below hb) hn)
        rw [hf] at C1
        have C3 := hid (show ∀ (A' : Option Addr) (c' : Nat) W, RdA W A' (turnedL g) → Below w.heap.size w W → _ from fun A' c' W hA hb => sBehindOf_c A' A c' c (turnedL g) f W hA (hR.below hb) (by rw [HT.out, mk_len]; exact hm) hn)
        have C4 := hid (show ∀ (A' : Option Addr) (c' : Nat) W, RdA W A' (behindL (turnedL g) f) → Below w.heap.size w W → _ from fun A' c' W hA hb => sBehindOf_c A' B c' d (behindL (turnedL g) f) g W hA (hS.below hb) (behindL_len _ _ (by rw [HT.out, mk_len]; exact hm)) hm)
        rw [HE.out] at C4
        rw [e1] at C2 C4 hm ⊢
        clear hf hg hl e1 c2 hR hS
        go_enter Try.func9, Try.ntmps9
        go_wp2_with fail
        refine C2.out.mono ?_; rintro e w2 ⟨A2, c2, rfl, o2, b2⟩
        have K1 := hid (C1.out w2 b2)
        have K3 := hid (C3.out A2 c2 w2 o2.rd b2)
        clear C2 C1 C3
        go_wp2_with fail
        refine K1.out.mono ?_; rintro e w' ⟨rfl, rfl⟩
        go_wp2_with fail
        refine K3.out.mono ?_; rintro e w3 ⟨A3, c3, rfl, o3, b3⟩
        have b3' := b2.trans (b3.mono b2.size)
        have K4 := hid (C4.out A3 c3 w3 o3.rd b3')
        clear C4 K1 K3
        have hsz := b3'.size
        go_wp2_with fail
        refine K4.out.mono ?_; rintro e w4 ⟨A4, c4, rfl, o4, b4⟩
        go_wp2_with fail
        go_ret
        exact ⟨A4, c4, rfl, o4.mono hsz, b3'.trans (b4.mono hsz)⟩
      · have HE := hid (named_no (f := f) (g := g) (fun h => hl h.2.2))
        have q1 : ((g.length : Int) == (f.length : Int)) = false := by simp; omega
        have q2 : ((f.length : Int) == (g.length : Int)) = false := by simp; omega
        have C1 := hid (show ∀ W, Below w.heap.size w W → _ from fun W hb => sMapOk_c A c f W (hR.below hb) hn)
        rw [hf] at C1
        clear hf hl hR hS hg
        go_enter Try.func9, Try.ntmps9
        go_wp2_with fail
        refine c2.mono ?_; rintro e w2 ⟨A2, c2, rfl, o2, b2⟩
        have K1 := hid (C1.out w2 b2)
        have hsz := b2.size
        have o4 := (own_empty w2).mono hsz
        have b4 := b2.alloc hsz (.cells #[] 3)
        clear C1 o2 b2
        go_wp2_with fail
        refine K1.out.mono ?_; rintro e w' ⟨rfl, rfl⟩
        go_wp2_with fail
        go_ret
        rw [HE.out]
        exact retI_own o4 b4
    · have HE := hid (named_no (f := f) (g := g) (fun h => hf h.1))
      have C1 := hid (show ∀ W, Below w.heap.size w W → _ from fun W hb => sMapOk_c A c f W (hR.below hb) hn)
      rw [show mapOkB f = false by simpa using hf] at C1
      clear hf hR hS hg
      go_enter Try.func9, Try.ntmps9
      go_wp2_with fail
      refine c2.mono ?_; rintro e w2 ⟨A2, c2, rfl, o2, b2⟩
      have K1 := hid (C1.out w2 b2)
      have hsz := b2.size
      have o4 := (own_empty w2).mono hsz
      have b4 := b2.alloc hsz (.cells #[] 3)
      clear C1 o2 b2
      go_wp2_with fail
      refine K1.out.mono ?_; rintro e w' ⟨rfl, rfl⟩
      go_wp2_with fail
      go_ret
      rw [HE.out]
      exact retI_own o4 b4
  · have HE := hid (named_no (f := f) (g := g) (fun h => hg h.2.1))
    rw [show turnedB g = false by simpa using hg] at c2
    clear hg hR hS
    go_enter Try.func9, Try.ntmps9
    go_wp2_with fail
    refine c2.mono ?_; rintro e w2 ⟨A2, c2, rfl, o2, b2⟩
    have hsz := b2.size
    have o4 := (own_empty w2).mono hsz
    have b4 := b2.alloc hsz (.cells #[] 3)
    clear o2 b2
    go_wp2_with fail
    go_ret
    rw [HE.out]
    exact retI_own o4 b4

end Go.Proofs.Ytjipecfoiddkjaa
