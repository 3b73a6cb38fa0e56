/- Contracts of chapter 6: the root of a turn, the reference's. -/
import Derived.Test.YtenmgiocbdabdaaS11
import Derived.BigRegion
namespace Go.Proofs.Ytenmgiocbdabdaa
open Go.RowKit
set_option linter.unusedVariables false

/-- the loop of l things that waits -/
def FirstS (f : List Int) (Bq l k : Nat) (v : Value) (w : World) : Prop :=
  (l % 2 = 1 ∨ wt f l k = none → ∃ A c, v = .slice A 0 c) ∧ (l % 2 = 0 → ∀ a, wt f l k = some a → ∃ b d, v = .slice (some ⟨b, 0, none⟩) l d ∧ Bq ≤ b ∧ Own Bq w (.slice (some ⟨b, 0, none⟩) l d) (gl (loopsLL f) a))
theorem FirstS.grown {f : List Int} {Bq l k g : Nat} {v : Value} {w w' : World} (h : FirstS f Bq l k v w) (hg : w.grownBy w' (some g)) (hB : g < Bq) : FirstS f Bq l k v w' :=
  ⟨h.1, fun he a ha => by
    obtain ⟨b, d, h1, h2, h3⟩ := h.2 he a ha
    refine ⟨b, d, h1, h2, ?_⟩
    refine h3.kept hg (.inr ?_)
    show some b ≠ some g
    intro e
    injection e with e
    omega⟩
theorem FirstS.next {f : List Int} {Bq l k : Nat} {v : Value} {w : World} (h : FirstS f Bq l k v w) (hk : lj f k ≠ l ∨ l % 2 = 1) : FirstS f Bq l (k + 1) v w := by
  rcases hk with hk | hk
  · have e : wt f l (k + 1) = wt f l k := by rw [wt, if_neg hk]
    unfold FirstS
    rw [e]
    exact h
  · exact ⟨fun _ => h.1 (.inl hk), fun he => by omega⟩
theorem firstS_nil {f : List Int} {Bq l k : Nat} {A : Option Addr} {c : Nat} {w : World} (h : wt f l k = none) : FirstS f Bq l k (.slice A 0 c) w :=
  ⟨fun _ => ⟨A, c, rfl⟩, fun _ a ha => by rw [h] at ha; cases ha⟩
theorem wt_put {f : List Int} {k : Nat} (h : wt f (lj f k) k = none) : wt f (lj f k) (k + 1) = some k := by rw [wt, if_pos rfl, h]
theorem wt_clear {f : List Int} {k a : Nat} (h : wt f (lj f k) k = some a) : wt f (lj f k) (k + 1) = none := by rw [wt, if_pos rfl, h]
theorem spI_no {f g : List Int} {l k : Nat} (h : lj f k ≠ l) : spI f g l (k + 1) = spI f g l k := by rw [spI, if_neg h]
theorem spI_odd {f g : List Int} {l k : Nat} (h : lj f k = l) (ho : l % 2 = 1) : spI f g l (k + 1) = layO f (spI f g l k) k l := by rw [spI, if_pos h, if_pos ho]
theorem spI_none {f g : List Int} {l k : Nat} (h : lj f k = l) (ho : ¬ l % 2 = 1) (hw : wt f l k = none) : spI f g l (k + 1) = spI f g l k := by rw [spI, if_pos h, if_neg ho, hw]
theorem spI_some {f g : List Int} {l k a : Nat} (h : lj f k = l) (ho : ¬ l % 2 = 1) (hw : wt f l k = some a) : spI f g l (k + 1) = layE f (spI f g l k) a k l := by rw [spI, if_pos h, if_neg ho, hw]

set_option maxHeartbeats 8000000 in
set_option maxRecDepth 100000 in
theorem sTurnRootOf_c (A : Option Addr) (c : Nat) (f : List Int) (w : World) (hR : RdA w A f) (hn : f.length ≤ 1048577) :
    Calls Try.prog 92 #[.slice A f.length c] w (TurnI w (rootL f) (rootOkB f)) := by
  have c1 := sTurnRootOk_c A c f w hR hn
  by_cases ht : rootOkB f = true
  · have HE := hid (spO_root ht)
    obtain ⟨hf, hi, he⟩ := rootOk_parts ht
    have HF := hid hf
    have HT := hid ht
    have h1 := hf.1.1
    have h7 := hf.1.2
    have HML := hid (mins_len hf)
    have hm7 : (mins f).length ≤ 7 := by rw [← mins_len hf]; exact loopsLL_len f h7
    have C2 := hid (fun W (hb : Below w.heap.size w W) => sLoopsOf_c A c f W (hR.below hb) hn)
    rw [ht] at c1
    obtain ⟨af, rfl, -⟩ := hR.some_ (show 0 < f.length by omega)
    have HRF := hid hR
    clear ht hR hf hi he
    go_enter Try.func92, Try.ntmps92
    go_wp2_with fail
    refine c1.mono ?_; rintro e w0 ⟨rfl, b0⟩
    have hz0 := b0.size
    go_wp2_with (at_make; refine wpList_mk _ rfl _ _ rfl _ f.length rfl rfl rfl (by omega) ?_; intro w1 hown1 hb1)
    have hgz : w0.heap.size < w1.heap.size := hown1.ge.2
    have b1 := b0.trans (hb1.mono hz0)
    have o1 := hown1.mono hz0
    have O1 := hid o1
    have c3 := hid (C2.out _ b1)
    clear C2 c1 hown1 hb1 o1
    go_wp2_with fail
    refine c3.out.mono ?_; rintro e w3 ⟨D0, d0, rfl, hrr3, hb3⟩
    rw [HML.out] at hrr3 ⊢
    have own3 := O1.out.below hb3
    have b3 : Below w.heap.size w w3 := b1.trans (hb3.mono b1.size)
    clear hb3 b1 b0 O1 c3
    have hw0 : w.heap.size ≤ w1.heap.size := by omega
    generalize w1.heap.size = Bq at *
    generalize w0.heap.size = gR at *
    go_wp2_with fail
    go_loopw [6] (fun i wr => ∃ l : Nat, l ≤ f.length ∧ i = .int .i64 ((l : Int) + 1) ∧ Own w.heap.size wr (.slice (some ⟨gR, 0, none⟩) f.length f.length) (spO f l) ∧ OwnRR Bq wr (.slice D0 (mins f).length d0) (loopsLL f) ∧ Below w.heap.size w wr) (fun i _ => f.length + 1 - (intOf i).toNat)
    case atStart => exact ⟨0, Nat.zero_le _, rfl, own3, hrr3, b3⟩
    case round =>
      clear own3 hrr3 b3
      obtain ⟨l0, hl0, rfl, hown, hrr, hb⟩ := hrel
      by_cases hll : l0 < f.length
      · have hsz := hb.size
        have hba := hb.alloc hsz (.cells #[] 3)
        have howna := hown.alloc (.cells #[] 3)
        have hrra := hrr.alloc (.cells #[] 3)
        have HSP := hid (show spO f (l0 + 1) = spI f (spO f l0) (l0 + 1) (mins f).length from rfl)
        have HGL := hid (spO_len f l0)
        generalize spO f l0 = G at *
        have e1 : (l0 : Int) + 1 = ((l0 + 1 : Nat) : Int) := by omega
        rw [e1]
        have hl1 : 1 ≤ l0 + 1 := by omega
        have hl7 : l0 + 1 ≤ 7 := by omega
        have hll' : l0 + 1 ≤ f.length := by omega
        clear e1 hown hrr hb hl0 hll
        generalize l0 + 1 = l at *
        go_wp2_with fail
        go_loopw [7, 8] (fun v i wr => ∃ k : Nat, k ≤ (mins f).length ∧ i = .int .i64 k ∧ Own w.heap.size wr (.slice (some ⟨gR, 0, none⟩) f.length f.length) (spI f G l k) ∧ OwnRR Bq wr (.slice D0 (mins f).length d0) (loopsLL f) ∧ FirstS f Bq l k v wr ∧ Below w.heap.size w wr) (fun _ i _ => (mins f).length - (intOf i).toNat)
        case atStart => exact ⟨0, Nat.zero_le _, rfl, howna, hrra, firstS_nil rfl, hba⟩
        case round =>
          clear howna hrra hba hsz
          obtain ⟨k, hk, rfl, hown, hrr, hfs, hb⟩ := hrel
          by_cases hlt : k < (mins f).length
          · obtain ⟨g, E, e0, rfl, hg, hc, hoE⟩ := hrr.at_ (by rw [HML.out]; exact hlt)
            have hlen := gl_long HF.out hlt
            rw [hlen] at hc hoE
            obtain ⟨gE, eE, e9, hgE, -⟩ := hoE.pos (by rw [hlen]; exact lj_pos HF.out hlt)
            rw [hlen] at e9
            cases e9
            have hlj1 := lj_pos HF.out hlt
            have hlj2 := lj_le HF.out hlt
            have HLEN := hid hlen
            have hbsz := hb.size
            clear hlen
            by_cases hkl : lj f k = l
            · have HKL := hid hkl
              rw [hkl] at hc hoE
              have q0 : ((l : Int) != (l : Int)) = false := by simp
              have HJ := hid (show ∀ p, p < l → p < (gl (loopsLL f) k).length ∧ nth (gl (loopsLL f) k) p = (it f p (tj f k) : Int) from fun p hp => ⟨by rw [gl_long HF.out hlt, hkl]; exact hp, gl_nth HF.out hlt (by rw [hkl]; exact hp)⟩)
              have HX := hid (fun p => HF.out.it_lt (tj_mem hlt).1 p)
              by_cases hodd : l % 2 = 1
              · have q1 : ((l : Int) % 2 == 1) = true := by simp; omega
                have HN := hid (spI_odd (g := G) hkl hodd)
                have hfs' := hid (hfs.next (.inr hodd))
                have HO := hid (And.intro hrr hb)
                have HE2 := hid hoE
                have HC := hid hc
                have HM := hid (show ∀ q, it f (q % l) (tj f k) = it f q (tj f k) from fun q => by rw [← hkl]; exact it_mod_tj HF.out hlt q)
                have HLO := hid (fun p => ((layO_len f (spI f G l k) k p).trans (spI_len f G l k)).trans HGL.out)
                clear hfs hrr hb hoE hkl
                generalize spI f G l k = GG at *
                go_wp2_with fail
                go_loopw [9] (fun i wr' => ∃ p : Nat, p ≤ l ∧ i = .int .i64 p ∧ Own w.heap.size wr' (.slice (some ⟨gR, 0, none⟩) f.length f.length) (layO f GG k p) ∧ wr.grownBy wr' (some gR) ∧ wr'.heap.size = wr.heap.size) (fun i _ => l - (intOf i).toNat)
                case atStart => exact ⟨0, Nat.zero_le _, rfl, hown, World.grownBy.refl _ _, rfl⟩
                case round =>
                  clear hown hc
                  obtain ⟨p, hp, rfl, hown, hgr, hz⟩ := hrel
                  have HSZ := hid hz
                  clear hz
                  by_cases hlp : p < l
                  · have hX := HX.out p
                    have hmod := Nat.mod_lt (p + (l + 1) / 2) (show 0 < l by omega)
                    have hcX := hown.cell (k := it f p (tj f k)) (by rw [HLO.out]; exact hX)
                    have hfX := hown.frozen (it f p (tj f k))
                    have hs1 := hown.store (it f p (tj f k)) (it f (p + (l + 1) / 2) (tj f k) : Int)
                    rw [show (layO f GG k p).set (it f p (tj f k)) (it f (p + (l + 1) / 2) (tj f k) : Int) = layO f GG k (p + 1) by rw [layO, HKL.out]] at hs1
                    have hg1 := grown_store hgr (it f p (tj f k)) (.int .i64 (it f (p + (l + 1) / 2) (tj f k) : Int))
                    have hrx := (rdX_own HE2.out hgE (show gR < Bq by omega)).grown hgr
                    have hc := (World.cell?_of_block (a := ⟨g, k, none⟩) (hgr.block g (lt_of_cell HC.out) (by intro e; injection e with e; omega))).trans HC.out
                    obtain ⟨ad, e8, -, r1⟩ := hrx p (HJ.out p hlp).1
                    rw [(HJ.out p hlp).2] at r1
                    cases e8
                    obtain ⟨ad, e8, -, r2⟩ := hrx ((p + (l + 1) / 2) % l) (HJ.out _ hmod).1
                    rw [(HJ.out _ hmod).2, HM.out] at r2
                    cases e8
                    rw [add_g] at r1 r2
                    have HR := hid (And.intro hs1 hg1)
                    have a1 : 0 ≤ ((p : Int) + ((l : Int) + 1) / 2) % (l : Int) := Int.emod_nonneg _ (by omega)
                    have a2 : ((p : Int) + ((l : Int) + 1) / 2) % (l : Int) < (l : Int) := Int.emod_lt_of_pos _ (by omega)
                    clear hown hgr hs1 hg1 hrx hmod
                    generalize it f (p + (l + 1) / 2) (tj f k) = Y at *
                    generalize it f p (tj f k) = X at *
                    go_wp2_with fail
                    go_region
                    all_goals go_wp2_with fail
                    all_goals go_roundw
                    case rel => exact ⟨p + 1, by omega, by go_num, by first | exact HR.out.1 | exact HR.out.1.drew, by first | exact HR.out.2 | exact grown_drewN HR.out.2 1, by simpa [World.setCell, World.drew] using HSZ.out⟩
                    case measure => simp [intOf]; omega
                  · obtain rfl : p = l := by omega
                    rw [← HN.out] at hown
                    obtain ⟨hrr, hb⟩ := HO.out
                    have hrr' := hrr.kept hgr (show gR < Bq by omega)
                    have hfs2 := hfs'.out.grown hgr (show gR < Bq by omega)
                    have hb' := below_grown hb hz0 hb.size hgr
                    clear hrr hb hgr
                    go_wp2_with fail
                    go_roundw
                    case rel => exact ⟨k + 1, by omega, by go_num, hown, hrr', hfs2, hb'⟩
                    case measure => simp [intOf]; omega
              · have q1 : ((l : Int) % 2 == 1) = false := by simp; omega
                cases hwt : wt f l k with
                | none =>
                  obtain ⟨A0, c0, rfl⟩ := hfs.1 (.inr hwt)
                  have HN := hid (spI_none (g := G) hkl hodd hwt)
                  rw [← HN.out] at hown
                  have HP := hid (show FirstS f Bq l (k + 1) (.slice (some ⟨gE, 0, none⟩) l e0) wr from by
                    have h0 : wt f l (k + 1) = some k := by rw [← hkl] at hwt ⊢; exact wt_put hwt
                    refine ⟨fun h => ?_, fun _ a ha => ?_⟩
                    · rcases h with h | h
                      · exact absurd h hodd
                      · rw [h0] at h; cases h
                    · rw [h0] at ha
                      cases ha
                      exact ⟨gE, e0, rfl, hgE, hoE⟩)
                  clear hfs hoE hkl hwt
                  go_wp2_with fail
                  go_roundw
                  case rel => exact ⟨k + 1, by omega, by go_num, hown, hrr, HP.out, hb⟩
                  case measure => simp [intOf]; omega
                | some a =>
                  obtain ⟨b, d, rfl, hbq, hoa⟩ := hfs.2 (by omega) a hwt
                  obtain ⟨haj, hla⟩ := wt_lt hwt
                  have ha : a < (mins f).length := by omega
                  have HN := hid (spI_some (g := G) hkl hodd hwt)
                  have HW := hid (show wt f l (k + 1) = none by rw [← hkl] at hwt ⊢; exact wt_clear hwt)
                  have HO := hid (And.intro hrr hb)
                  have HE2 := hid hoE
                  have HA2 := hid hoa
                  have HC := hid hc
                  have HJa := hid (show ∀ p, p < l → p < (gl (loopsLL f) a).length ∧ nth (gl (loopsLL f) a) p = (it f p (tj f a) : Int) from fun p hp => ⟨by rw [gl_long HF.out ha, hla]; exact hp, gl_nth HF.out ha (by rw [hla]; exact hp)⟩)
                  have HXa := hid (fun p => HF.out.it_lt (tj_mem ha).1 p)
                  have HLO := hid (fun p => ((layE_len f (spI f G l k) a k p).trans (spI_len f G l k)).trans HGL.out)
                  clear hfs hrr hoE hoa hkl hwt hla haj ha
                  generalize spI f G l k = GG at *
                  have q2 : ((l : Int) == 0) = false := by simp; omega
                  go_wp2_with fail
                  go_loopw [10] (fun i wr' => ∃ p : Nat, p ≤ l ∧ i = .int .i64 p ∧ Own w.heap.size wr' (.slice (some ⟨gR, 0, none⟩) f.length f.length) (layE f GG a k p) ∧ wr.grownBy wr' (some gR) ∧ wr'.heap.size = wr.heap.size) (fun i _ => l - (intOf i).toNat)
                  case atStart => exact ⟨0, Nat.zero_le _, rfl, hown, World.grownBy.refl _ _, rfl⟩
                  case round =>
                    clear hown hc
                    obtain ⟨p, hp, rfl, hown, hgr, hz⟩ := hrel
                    have HSZ := hid hz
                    clear hz
                    by_cases hlp : p < l
                    · have hX := HXa.out p
                      have hY := HX.out p
                      have hZ := HXa.out (p + 1)
                      have hb' := below_grown hb hz0 hb.size hgr
                      have dD := (rdX_own HA2.out hbq (show gR < Bq by omega)).grown hgr
                      have dE := (rdX_own HE2.out hgE (show gR < Bq by omega)).grown hgr
                      have hc := (World.cell?_of_block (a := ⟨g, k, none⟩) (hgr.block g (lt_of_cell HC.out) (by intro e; injection e with e; omega))).trans HC.out
                      have hcX := hown.cell (k := it f p (tj f a)) (by rw [HLO.out]; exact hX)
                      have hfX := hown.frozen (it f p (tj f a))
                      have hs1 := hown.store (it f p (tj f a)) (it f p (tj f k) : Int)
                      have hcY := hs1.cell (k := it f p (tj f k)) (by rw [List.length_set, HLO.out]; exact hY)
                      have hfY := hs1.frozen (it f p (tj f k))
                      have hs2 := hs1.store (it f p (tj f k)) (it f (p + 1) (tj f a) : Int)
                      rw [show ((layE f GG a k p).set (it f p (tj f a)) (it f p (tj f k) : Int)).set (it f p (tj f k)) (it f (p + 1) (tj f a) : Int) = layE f GG a k (p + 1) from rfl] at hs2
                      have hg1 := grown_store hgr (it f p (tj f a)) (.int .i64 (it f p (tj f k) : Int))
                      have hg2 := grown_store hg1 (it f p (tj f k)) (.int .i64 (it f (p + 1) (tj f a) : Int))
                      have dD1 := dD.set (it f p (tj f a)) (.int .i64 (it f p (tj f k) : Int))
                      have dE1 := dE.set (it f p (tj f a)) (.int .i64 (it f p (tj f k) : Int))
                      have hc1 := (World.cell?_of_block (a := ⟨g, k, none⟩) (hg1.block g (lt_of_cell HC.out) (by intro e; injection e with e; omega))).trans HC.out
                      have hb1 := hb'.setCell (p := ⟨gR, it f p (tj f a), none⟩) hz0 (.int .i64 (it f p (tj f k) : Int))
                      obtain ⟨af', e8, r5⟩ := (HRF.out.below hb1) (it f p (tj f a)) hX
                      rw [HF.out.nth_ap hX, show ap f (it f p (tj f a)) = it f (p + 1) (tj f a) from rfl] at r5
                      cases e8
                      obtain ⟨ad, e8, -, r1⟩ := dD p (HJa.out p hlp).1
                      rw [(HJa.out p hlp).2] at r1
                      cases e8
                      obtain ⟨ad, e8, -, r2⟩ := dE p (HJ.out p hlp).1
                      rw [(HJ.out p hlp).2] at r2
                      cases e8
                      obtain ⟨ad, e8, -, r3⟩ := dE1 p (HJ.out p hlp).1
                      rw [(HJ.out p hlp).2] at r3
                      cases e8
                      obtain ⟨ad, e8, -, r4⟩ := dD1 p (HJa.out p hlp).1
                      rw [(HJa.out p hlp).2] at r4
                      cases e8
                      rw [add_g] at r1 r2 r3 r4
                      have HR := hid (And.intro hs2 hg2)
                      clear hown hgr hs1 hs2 hg1 hg2 dD dE dD1 dE1 hb' hb1
                      generalize it f (p + 1) (tj f a) = Z at *
                      generalize it f p (tj f a) = X at *
                      generalize it f p (tj f k) = Y at *
                      go_wp2_with fail
                      go_region
                      all_goals go_wp2_with fail
                      all_goals go_region
                      all_goals go_wp2_with fail
                      all_goals go_roundw
                      case rel => exact ⟨p + 1, by omega, by go_num, by first | exact HR.out.1 | exact HR.out.1.drew | exact HR.out.1.drew.drew, by first | exact HR.out.2 | exact grown_drewN HR.out.2 1 | exact grown_drewN HR.out.2 2, by simpa [World.setCell, World.drew] using HSZ.out⟩
                      case measure => simp [intOf]; omega
                    · obtain rfl : p = l := by omega
                      rw [← HN.out] at hown
                      obtain ⟨hrr, hb0⟩ := HO.out
                      have hrr' := (hrr.kept hgr (show gR < Bq by omega)).alloc (.cells #[] 3)
                      have hb' := below_grown hb hz0 hb.size hgr
                      have hb2 := hb'.alloc hb'.size (.cells #[] 3)
                      have hown2 := hown.alloc (.cells #[] 3)
                      clear hrr hb0 hgr hown hb' hb hbsz
                      go_wp2_with fail
                      go_roundw
                      case rel => exact ⟨k + 1, by omega, by go_num, hown2, hrr', firstS_nil HW.out, hb2⟩
                      case measure => simp [intOf]; omega
            · have q0 : ((lj f k : Int) != (l : Int)) = true := by simp; omega
              have HN := hid (spI_no (g := G) hkl)
              have hfs' := hfs.next (.inl hkl)
              rw [← HN.out] at hown
              clear hfs hoE hkl
              generalize lj f k = lk at *
              go_wp2_with fail
              go_roundw
              case rel => exact ⟨k + 1, by omega, by go_num, hown, hrr, hfs', hb⟩
              case measure => simp [intOf]; omega
          · obtain rfl : k = (mins f).length := by omega
            rw [← HSP.out] at hown
            go_wp2_with fail
            go_roundw
            case rel => exact ⟨l, hll', by go_num, hown, hrr, hb⟩
            case measure => simp [intOf]; omega
      · obtain rfl : l0 = f.length := by omega
        rw [HE.out] at hown
        have HL := hid (show (rootL f).length = f.length by rw [← HE.out, spO_len])
        go_wp2_with fail
        go_ret2
        rw [HT.out]
        exact turnI_own hown hb HL.out.symm
  · have ht' : rootOkB f = false := by simpa using ht
    have HE := hid (show rootL f = [] from if_neg ht)
    have HT := hid ht'
    rw [ht'] at c1
    clear ht ht' hR
    go_enter Try.func92, Try.ntmps92
    go_wp2_with fail
    refine c1.mono ?_; rintro e w0 ⟨rfl, b0⟩
    have o0 := (own_empty w0).mono b0.size
    have b1 := b0.alloc b0.size (.cells #[] 3)
    go_wp2_with fail
    go_ret2
    rw [HE.out, HT.out]
    exact turnI_own o0 b1 rfl

end Go.Proofs.Ytenmgiocbdabdaa
