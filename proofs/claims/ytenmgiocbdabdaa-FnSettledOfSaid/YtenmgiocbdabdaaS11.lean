/- Contracts of chapter 6: the root of a turn. -/
import Derived.Test.YtenmgiocbdabdaaS10
import Derived.Test.YtenmgiocbdabdaaA4
import Derived.Lib.LazyBuf
namespace Go.Proofs.Ytenmgiocbdabdaa
open Go.RowKit
set_option linter.unusedVariables false

/-- the loops that wait, by their lengths -/
def WaitS (f : List Int) (Bq k : Nat) (cs : Array Value) (w : World) : Prop := cs.size = 8 ∧ ∀ l, l < 8 → l % 2 = 0 →
  (wt f l k = none → cs[l]? = some (.slice none 0 0)) ∧ (∀ a, wt f l k = some a → ∃ b d, cs[l]? = some (.slice (some ⟨b, 0, none⟩) (lj f a) d) ∧ Bq ≤ b ∧ Own Bq w (.slice (some ⟨b, 0, none⟩) (lj f a) d) (gl (loopsLL f) a))
theorem WaitS.grown {f : List Int} {Bq k g : Nat} {cs : Array Value} {w w' : World} (h : WaitS f Bq k cs w) (hg : w.grownBy w' (some g)) (hB : g < Bq) : WaitS f Bq k cs w' :=
  ⟨h.1, fun l hl he => ⟨(h.2 l hl he).1, fun a ha => by
    obtain ⟨b, d, h1, h2, h3⟩ := (h.2 l hl he).2 a ha
    refine ⟨b, d, h1, h2, ?_⟩
    refine h3.kept hg (.inr ?_)
    show some b ≠ some g
    intro e
    injection e with e
    omega⟩⟩
theorem WaitS.odd {f : List Int} {Bq k : Nat} {cs : Array Value} {w : World} (h : WaitS f Bq k cs w) (hk : lj f k % 2 = 1) : WaitS f Bq (k + 1) cs w :=
  ⟨h.1, fun l hl he => by
    have e : wt f l (k + 1) = wt f l k := by rw [wt, if_neg (by omega)]
    rw [e]
    exact h.2 l hl he⟩
theorem WaitS.put {f : List Int} {Bq k : Nat} {cs : Array Value} {w : World} (h : WaitS f Bq k cs w) (hl8 : lj f k < 8) (hw : wt f (lj f k) k = none) {b d : Nat} (hb : Bq ≤ b) (ho : Own Bq w (.slice (some ⟨b, 0, none⟩) (lj f k) d) (gl (loopsLL f) k)) :
    WaitS f Bq (k + 1) (cs.setIfInBounds (lj f k) (.slice (some ⟨b, 0, none⟩) (lj f k) d)) w :=
  ⟨by simp [h.1], fun l hl he => by
    by_cases e : lj f k = l
    · subst e
      rw [wt, if_pos rfl, hw]
      refine ⟨fun h => (by cases h), fun a ha => ?_⟩
      simp only [Option.some.injEq] at ha
      subst ha
      exact ⟨b, d, by rw [Array.getElem?_setIfInBounds_self_of_lt (by rw [h.1]; exact hl8)], hb, ho⟩
    · have e2 : wt f l (k + 1) = wt f l k := by rw [wt, if_neg e]
      rw [e2, Array.getElem?_setIfInBounds_ne e]
      exact h.2 l hl he⟩
theorem WaitS.clear {f : List Int} {Bq k a : Nat} {cs : Array Value} {w : World} (h : WaitS f Bq k cs w) (hl8 : lj f k < 8) (hw : wt f (lj f k) k = some a) :
    WaitS f Bq (k + 1) (cs.setIfInBounds (lj f k) (.slice none 0 0)) w :=
  ⟨by simp [h.1], fun l hl he => by
    by_cases e : lj f k = l
    · subst e
      rw [wt, if_pos rfl, hw]
      exact ⟨fun _ => by rw [Array.getElem?_setIfInBounds_self_of_lt (by rw [h.1]; exact hl8)], fun a ha => by cases ha⟩
    · have e2 : wt f l (k + 1) = wt f l k := by rw [wt, if_neg e]
      rw [e2, Array.getElem?_setIfInBounds_ne e]
      exact h.2 l hl he⟩
def nil8 : Array Value := #[.slice none 0 0, .slice none 0 0, .slice none 0 0, .slice none 0 0, .slice none 0 0, .slice none 0 0, .slice none 0 0, .slice none 0 0]
theorem waitS_new (f : List Int) (Bq : Nat) (w : World) : WaitS f Bq 0 nil8 w :=
  ⟨rfl, fun l hl he => ⟨fun _ => by
    have : l = 0 ∨ l = 2 ∨ l = 4 ∨ l = 6 := by omega
    rcases this with rfl | rfl | rfl | rfl <;> rfl, fun a ha => by simp [wt] at ha⟩⟩
theorem rdX_own {Bq g b d n : Nat} {w : World} {xs : List Int} (h : Own Bq w (.slice (some ⟨b, 0, none⟩) n d) xs) (hb : Bq ≤ b) (hg : g < Bq) : RdX w g (some ⟨b, 0, none⟩) xs := fun k hk => by
  refine ⟨⟨b, 0, none⟩, rfl, by show b ≠ g; omega, ?_⟩
  rw [add_g]
  exact h.cell hk
theorem rtW_odd {f : List Int} {k : Nat} (h : lj f k % 2 = 1) : rtW f (k + 1) = layO f (rtW f k) k (lj f k) := by rw [rtW, if_pos h]
theorem rtW_none {f : List Int} {k : Nat} (h : ¬ lj f k % 2 = 1) (hw : wt f (lj f k) k = none) : rtW f (k + 1) = rtW f k := by rw [rtW, if_neg h, hw]
theorem rtW_some {f : List Int} {k a : Nat} (h : ¬ lj f k % 2 = 1) (hw : wt f (lj f k) k = some a) : rtW f (k + 1) = layE f (rtW f k) a k (lj f k) := by rw [rtW, if_neg h, hw]
theorem Blk.grown' {w w' : World} {g g' : Nat} {t : TypeId} {cs : Array Value} (h : Blk w g t cs) (hg : w.grownBy w' (some g')) (hne : g ≠ g') : Blk w' g t cs :=
  (hg.block g (lt_of_block h) (by intro e; injection e with e; exact hne e)).trans h
theorem below_grown {B g : Nat} {w w1 w2 : World} (h : Below B w w1) (hB : B ≤ g) (hz : B ≤ w1.heap.size) (hg : w1.grownBy w2 (some g)) : Below B w w2 := h.grown hg hz (fun k hk => by injection hk with hk; omega)

set_option maxHeartbeats 4000000 in
set_option maxRecDepth 20000 in
theorem iTurnRootOf_c (A : Option Addr) (c : Nat) (f : List Int) (w : World) (hR : RdA w A f) (hn : f.length ≤ 1048577) :
    Calls Try.prog 93 #[.slice A f.length c] w (TurnI w (rootL f) (rootOkB f)) := by
  have c1 := iTurnRootOk_c A c f w hR hn
  by_cases ht : rootOkB f = true
  · have HE := hid (show rootL f = rtW f (mins f).length from if_pos ht)
    obtain ⟨hf, hi, he⟩ := rootOk_parts ht
    have HF := hid hf
    have HT := hid ht
    have h1 := hf.1.1
    have h7 := hf.1.2
    have HML := hid (mins_len hf)
    have hm7 : (mins f).length ≤ 7 := by rw [← mins_len hf]; exact loopsLL_len f h7
    have C2 := hid (fun W (hb : Below w.heap.size w W) => iLoopsOf_c A c f W (hR.below hb) hn)
    rw [ht] at c1
    have HQ := hid (run_eql_slice_nil (P := Try.prog) · 23 3 · · · Try.underlying23)
    clear ht hR hf hi he
    go_enter Try.func93, Try.ntmps93
    go_wp2_with fail
    refine c1.mono ?_; rintro e w0 ⟨rfl, b0⟩
    have hz0 := b0.size
    go_wp2_with (at_make; refine wpList_mk _ rfl _ _ rfl _ f.length rfl rfl rfl (by omega) ?_; intro w1 hown1 hb1)
    have hgz : w0.heap.size < w1.heap.size := hown1.ge.2
    have b1 := b0.trans (hb1.mono hz0)
    have b2 : Below w.heap.size w (w1.alloc (.cells nil8 74)) := b1.alloc b1.size _
    have o2 := hown1.alloc (.cells nil8 74)
    have k2 : Blk (w1.alloc (.cells nil8 74)) w1.heap.size 74 nil8 := heap_alloc_new w1 _
    have hz2 : w1.heap.size + 1 = (w1.alloc (.cells nil8 74)).heap.size := by simp
    change Below _ _ (w1.alloc (.cells #[.slice none 0 0, .slice none 0 0, .slice none 0 0, .slice none 0 0, .slice none 0 0, .slice none 0 0, .slice none 0 0, .slice none 0 0] 74)) at b2
    have c3 := hid (C2.out _ b2)
    have o3 := o2.mono hz0
    have O3 := hid o3
    have K2 := hid k2
    have HZ2 := hid hz2
    clear C2 o2 o3 k2 hz2 c1 hown1 hb1
    go_wp2_with fail
    refine c3.out.mono ?_; rintro e w3 ⟨D0, d0, rfl, hrr, hb3⟩
    rw [HML.out] at hrr ⊢
    have own3 := O3.out.below hb3
    have blk3 : Blk w3 w1.heap.size 74 nil8 := (hb3.block w1.heap.size (by simp)).trans K2.out
    have b3 : Below w.heap.size w w3 := b2.trans (hb3.mono b2.size)
    have hrr3 : OwnRR (w1.heap.size + 1) w3 (.slice D0 (mins f).length d0) (loopsLL f) := hrr.mono (by simp)
    clear hrr hb3 b2 b1 b0 O3 K2 HZ2 c3
    have hw0 : w.heap.size ≤ w1.heap.size := by omega
    generalize w1.heap.size = gW at *
    generalize w0.heap.size = gR at *
    go_wp2_with fail
    go_loopw [20] (fun i wr => ∃ (k : Nat) (cs : Array Value), k ≤ (mins f).length ∧ i = .int .i64 k ∧ Own w.heap.size wr (.slice (some ⟨gR, 0, none⟩) f.length f.length) (rtW f k) ∧ OwnRR (gW + 1) wr (.slice D0 (mins f).length d0) (loopsLL f) ∧ Blk wr gW 74 cs ∧ WaitS f (gW + 1) k cs wr ∧ Below w.heap.size w wr) (fun i _ => (mins f).length - (intOf i).toNat)
    case atStart => exact ⟨0, nil8, Nat.zero_le _, rfl, own3, hrr3, blk3, waitS_new f _ _, b3⟩
    case round =>
      clear own3 hrr3 blk3 b3
      obtain ⟨k, cs, hk, rfl, hown, hrr, hblk, hws, hb⟩ := hrel
      by_cases hlt : k < (mins f).length
      · obtain ⟨g, E, e0, rfl, hg, hc, hoE⟩ := hrr.at_ (by rw [HML.out]; exact hlt)
        have hlen := gl_long HF.out hlt
        rw [hlen] at hc hoE
        obtain ⟨gE, eE, e9, hgE, -⟩ := hoE.pos (by rw [hlen]; exact lj_pos HF.out hlt)
        rw [hlen] at e9
        cases e9
        have hl1 := lj_pos HF.out hlt
        have hl2 := lj_le HF.out hlt
        have HLEN := hid hlen
        clear hlen
        by_cases hodd : lj f k % 2 = 1
        · have q1 : ((lj f k : Int) % 2 == 1) = true := by simp; omega
          have HN := hid (rtW_odd hodd)
          have hws' := hid (hws.odd hodd)
          have HO := hid (And.intro hrr (And.intro hblk hb))
          have HE2 := hid hoE
          have HJ := hid (show ∀ p, p < lj f k → nth (gl (loopsLL f) k) p = (it f p (tj f k) : Int) from fun p hp => gl_nth HF.out hlt hp)
          have HX := hid (fun p => HF.out.it_lt (tj_mem hlt).1 p)
          have HM := hid (fun q => it_mod_tj HF.out hlt q)
          have HLO := hid (fun p => (layO_len f (rtW f k) k p).trans (rtW_len f k))
          clear hws hrr hblk hb hoE
          generalize hLL : lj f k = l at *
          generalize rtW f k = G at *
          go_wp2_with fail
          go_loopw [40] (fun i wr' => ∃ p : Nat, p ≤ l ∧ i = .int .i64 p ∧ Own w.heap.size wr' (.slice (some ⟨gR, 0, none⟩) f.length f.length) (layO f G k p) ∧ wr.grownBy wr' (some gR) ∧ wr'.heap.size = wr.heap.size) (fun i _ => l - (intOf i).toNat)
          case atStart => exact ⟨0, Nat.zero_le _, rfl, hown, World.grownBy.refl _ _, rfl⟩
          case round =>
            clear hown
            obtain ⟨p, hp, rfl, hown, hgr, hz⟩ := hrel
            have HSZ := hid hz
            clear hz
            by_cases hlp : p < l
            · have hX := HX.out p
              have hmod := Nat.mod_lt (p + (l + 1) / 2) (show 0 < l by omega)
              have hcX := hown.cell (k := it f p (tj f k)) (by rw [HLO.out]; exact hX)
              have hfX := hown.frozen (it f p (tj f k))
              have hs1 := hown.store (it f p (tj f k)) (it f (p + (l + 1) / 2) (tj f k) : Int)
              rw [show (layO f G k p).set (it f p (tj f k)) (it f (p + (l + 1) / 2) (tj f k) : Int) = layO f G k (p + 1) by rw [layO, hLL]] at hs1
              have hg1 := grown_store hgr (it f p (tj f k)) (.int .i64 (it f (p + (l + 1) / 2) (tj f k) : Int))
              have hrx := (rdX_own HE2.out hgE (show gR < gW + 1 by omega)).grown hgr
              obtain ⟨ad, e8, -, r1⟩ := hrx p (by rw [HLEN.out]; exact hlp)
              rw [HJ.out p hlp] at r1
              cases e8
              obtain ⟨ad, e8, -, r2⟩ := hrx ((p + (l + 1) / 2) % l) (by rw [HLEN.out]; exact hmod)
              rw [HJ.out _ hmod, HM.out] at r2
              cases e8
              rw [add_g] at r1 r2
              have HR := hid (And.intro hs1 hg1)
              have a1 : 0 ≤ ((p : Int) + ((l : Int) + 1) / 2) % (l : Int) := Int.emod_nonneg _ (by omega)
              have a2 : ((p : Int) + ((l : Int) + 1) / 2) % (l : Int) < (l : Int) := Int.emod_lt_of_pos _ (by omega)
              clear hown hgr hs1 hg1 hrx hmod
              generalize it f (p + (l + 1) / 2) (tj f k) = Y at *
              generalize it f p (tj f k) = X at *
              go_wp2_with fail
              go_roundw
              case rel => exact ⟨p + 1, by omega, by go_num, HR.out.1, HR.out.2, by simpa [World.setCell] using HSZ.out⟩
              case measure => simp [intOf]; omega
            · obtain rfl : p = l := by omega
              rw [← HN.out] at hown
              obtain ⟨hrr, hblk, hb⟩ := HO.out
              have hrr' := hrr.kept hgr (show gR < gW + 1 by omega)
              have hblk' := hblk.grown' hgr (show gW ≠ gR by omega)
              have hws2 := hws'.out.grown hgr (show gR < gW + 1 by omega)
              have hb' := below_grown hb hz0 hb.size hgr
              clear hrr hblk hb hgr
              go_wp2_with fail
              go_roundw
              case rel => exact ⟨k + 1, cs, by omega, by go_num, hown, hrr', hblk', hws2, hb'⟩
              case measure => simp [intOf]; omega
        · have q1 : ((lj f k : Int) % 2 == 1) = false := by simp; omega
          have hl8 : lj f k < 8 := by omega
          have hev : lj f k % 2 = 0 := by omega
          cases hwt : wt f (lj f k) k with
          | none =>
            have hcs := (hws.2 _ hl8 hev).1 hwt
            have hcW := (hblk.cell (lj f k)).trans hcs
            have hfW := hblk.frozen (lj f k)
            have hg1 : wr.grownBy (wr.setCell ⟨gW, lj f k, none⟩ (.slice (some ⟨gE, 0, none⟩) (lj f k) e0)) (some gW) := grown_store (World.grownBy.refl _ _) _ _
            have n1 := hown.kept hg1 (.inr (by show some gR ≠ some gW; intro e; injection e with e; omega))
            rw [← rtW_none hodd hwt] at n1
            have n2 := hrr.kept hg1 (show gW < gW + 1 by omega)
            have n3 := hblk.set_ (lj f k) (.slice (some ⟨gE, 0, none⟩) (lj f k) e0)
            have n4 := (hws.put hl8 hwt hgE hoE).grown hg1 (show gW < gW + 1 by omega)
            have n5 := hb.setCell (p := ⟨gW, lj f k, none⟩) hw0 (.slice (some ⟨gE, 0, none⟩) (lj f k) e0)
            have HR := hid (And.intro n1 (And.intro n2 (And.intro n3 (And.intro n4 n5))))
            have hq : ∀ W D l c, (binOp .eql 23 (.slice D l c) (.slice none 0 0)).run Try.prog W = .ok (.bool D.isNone) W := fun W D l c => HQ.out W D l c
            have hq0 : ∀ W, (binOp .eql 23 (.slice none 0 0) (.slice none 0 0)).run Try.prog W = .ok (.bool true) W := fun W => hq W none 0 0
            clear hq n1 n2 n3 n4 n5 hg1 hown hrr hblk hws hb hcs hoE
            generalize lj f k = l at *
            go_wp2_with fail
            go_roundw
            case rel => exact ⟨k + 1, _, by omega, by go_num, HR.out.1, HR.out.2.1, HR.out.2.2.1, HR.out.2.2.2.1, HR.out.2.2.2.2⟩
            case measure => simp [intOf]; omega
          | some a =>
            obtain ⟨haj, hla⟩ := wt_lt hwt
            obtain ⟨b, d, hcs, hbq, hoa⟩ := (hws.2 _ hl8 hev).2 a hwt
            rw [hla] at hcs hoa
            have hcW := (hblk.cell (lj f k)).trans hcs
            have K := hid (layBetween_c w.heap.size gR f.length d e0 f (rtW f k) a k (some ⟨b, 0, none⟩) (some ⟨gE, 0, none⟩) wr HF.out (rtW_len f k) (by omega) hlt hla hown (rdX_own hoa hbq (by omega)) (rdX_own hoE hgE (by omega)))
            rw [← rtW_some hodd hwt] at K
            have hq : ∀ W l c, (binOp .eql 23 (.slice (some ⟨b, 0, none⟩) l c) (.slice none 0 0)).run Try.prog W = .ok (.bool false) W := fun W l c => HQ.out W (some ⟨b, 0, none⟩) l c
            have HH := hid (And.intro hrr (And.intro hblk (And.intro hws hb)))
            have HC := hid hcs
            clear hown hrr hblk hws hb hcs hoE hoa hla
            generalize hLL : lj f k = l at *
            have KL := hid hLL
            clear hLL
            go_wp2_with fail
            refine K.out.mono ?_; rintro e w4 ⟨rfl, hown, hgr, hz4⟩
            obtain ⟨hrr, hblk, hws, hb⟩ := HH.out
            have HSZ := hid hz4
            have hrr' := hrr.kept hgr (show gR < gW + 1 by omega)
            have hblk' := hblk.grown' hgr (show gW ≠ gR by omega)
            have hws2 := hws.grown hgr (show gR < gW + 1 by omega)
            have hb' := below_grown hb hz0 hb.size hgr
            have hcW4 := (hblk'.cell l).trans HC.out
            have hfW := hblk'.frozen l
            have hg1 : w4.grownBy (w4.setCell ⟨gW, l, none⟩ (.slice none 0 0)) (some gW) := grown_store (World.grownBy.refl _ _) _ _
            have n1 := hown.kept hg1 (.inr (by show some gR ≠ some gW; intro e; injection e with e; omega))
            have n2 := hrr'.kept hg1 (show gW < gW + 1 by omega)
            have n3 := hblk'.set_ l (.slice none 0 0)
            have n4 := (hws2.clear (by rw [KL.out]; exact hl8) (by rw [KL.out]; exact hwt)).grown hg1 (show gW < gW + 1 by omega)
            have n5 := hb'.setCell (p := ⟨gW, l, none⟩) hw0 (.slice none 0 0)
            rw [KL.out] at n4
            have HR := hid (And.intro n1 (And.intro n2 (And.intro n3 (And.intro n4 n5))))
            clear n1 n2 n3 n4 n5 hg1 hown hrr hblk hws hb hrr' hblk' hws2 hb' hgr hz4 hcW hwt
            go_wp2_with fail
            go_roundw
            case rel => exact ⟨k + 1, _, by omega, by go_num, HR.out.1, HR.out.2.1, HR.out.2.2.1, HR.out.2.2.2.1, HR.out.2.2.2.2⟩
            case measure => simp [intOf]; omega
      · obtain rfl : k = (mins f).length := by omega
        rw [← HE.out] at hown
        have HL := hid (show (rootL f).length = f.length by rw [HE.out, rtW_len])
        go_wp2_with fail
        go_ret2
        rw [HT.out]
        exact turnI_own hown hb HL.out.symm
  · have ht' : rootOkB f = false := by simpa using ht
    have HE := hid (show rootL f = [] from if_neg ht)
    have HT := hid ht'
    rw [ht'] at c1
    clear ht ht' hR
    go_enter Try.func93, Try.ntmps93
    go_wp2_with fail
    refine c1.mono ?_; rintro e w0 ⟨rfl, b0⟩
    go_wp2_with fail
    go_ret2
    rw [HE.out, HT.out]
    exact turnI_own (Own.nil _ _) b0 rfl

end Go.Proofs.Ytenmgiocbdabdaa
