/- Contracts of chapter 1: what leads to a thing, the image. -/
import Derived.Test.YtenmgiocbdabdaaI2
namespace Go.Proofs.Ytenmgiocbdabdaa
open Go.RowKit Go.Shelf
set_option linter.unusedVariables false
attribute [local go_sem] Oper.semAt_some

theorem collect_c {α : Type} (val : α → Nat) (gf : Nat) (lb : Array Value) (S Sp : List α → Prop) (N : Nat) (hN : N ≤ 1000) (w : World)
    (eg : ∀ args W, (callFunc gf args).run Try.prog W = .ok (.enter gf args) W)
    (hseq : SeqStopsK Fence.wide 9 Try.prog gf lb (fun x => #[Value.int .i64 (val x : Nat)]) (Below w.heap.size) S Sp N w) :
    Calls Try.prog 137 #[.func (.func gf) #[] lb] w (CollR val S w) := by
  have K := hid ((callsIn_wide (n := 10)).1 (appendSeq_in val 10 (by omega) gf lb S Sp N hN w eg hseq))
  clear hseq eg
  go_enter Try.func137, Try.ntmps137
  go_wp2_with fail
  refine K.out.mono ?_
  rintro e w2 ⟨ys, hS, v, rfl, ho, hb⟩
  go_wp2_with fail
  go_ret
  exact ⟨ys, hS, v, rfl, ho, hb⟩

def fromI (f : List Int) (t : Int) : List Int := if thB f t = true then ints (frN f t f.length) else []
theorem iFromOf_c (A : Option Addr) (c : Nat) (f : List Int) (t : Int) (w : World) (hR : RdA w A f) (hn : f.length ≤ 1048577) :
    Calls Try.prog 101 #[.slice A f.length c, .int .i64 t] w (RetI w (fromI f t)) := by
  have c1 := iMapOk_c A c f w hR hn
  by_cases hf : mapOkB f = true
  · rw [hf] at c1
    have h7 := (good_of hf).1.2
    have h1 := (good_of hf).1.1
    by_cases ht : 0 ≤ t ∧ t < f.length
    · have c2 := has_t A f.length c t w ht
      have HE := hid (show fromI f t = ints (frN f t f.length) from if_pos (thB_iff.2 ⟨good_of hf, ht⟩))
      have c3 := hid (from_c A f.length c t w)
      obtain ⟨ad, rfl, hcell⟩ := hR.some_ (show 0 < f.length by omega)
      have hadl : ad.block < w.heap.size := by have := lt_of_cell (hcell 0 (by omega)); rwa [block_of_add] at this
      have b0 : Below w.heap.size w ((w.alloc (.cells #[.slice (some ad) f.length c] 65)).alloc (.cells #[.int .i64 t] 3)) := ((Below.refl _ w).alloc (Nat.le_refl _) _).alloc (by simp) _
      have c4 := hid (collect_c (fun x : Th f t => x.1) 173 #[.pointer (some ⟨w.heap.size, 0, none⟩), .pointer (some ⟨w.heap.size + 1, 0, none⟩)] _ _ f.length (by omega) ((w.alloc (.cells #[.slice (some ad) f.length c] 65)).alloc (.cells #[.int .i64 t] 3))
        (enters_of Try.func173 (by kernel_rfl) rfl)
        (from_stops 9 (by omega) w.heap.size (w.heap.size + 1) _ c ad f t h7 (by simp; omega) (by simp; omega) (by simp) _ (Nat.le_refl _)
          (by rw [World.cell?_alloc_lt _ _ _ (by simp)]; exact cell_one1 w _ _) (by have := cell_one1 (w.alloc (.cells #[.slice (some ad) f.length c] 65)) (.int .i64 t) 3; rwa [World.size_alloc] at this)
          (fun k hk => (b0.cell (p := ad.add k) (by rw [block_of_add]; exact hadl)).trans (hcell k hk))))
      have HB := hid b0
      clear hf ht hR hcell b0
      go_enter Try.func101, Try.ntmps101
      go_wp2_with fail
      refine c1.mono ?_; rintro e w' ⟨rfl, rfl⟩
      go_wp2_with fail
      refine c2.mono ?_; rintro e w' ⟨rfl, rfl⟩
      go_wp2_with fail
      refine c3.out.mono ?_; rintro e w3 ⟨rfl, rfl⟩
      go_wp2_with fail
      refine c4.out.mono ?_
      rintro e w4 ⟨ys, hS, v, rfl, ho, hb⟩
      rw [hS, ← HE.out] at ho
      have hb4 := HB.out.trans (hb.mono HB.out.size)
      have ho4 := ho.mono HB.out.size
      go_wp2_with fail
      go_ret
      exact retI_own ho4 hb4
    · have c2 := has_f A f.length c t w ht
      have HE := hid (show fromI f t = [] from if_neg (fun h => ht (thB_iff.1 h).2))
      clear hf ht hR
      go_enter Try.func101, Try.ntmps101
      go_wp2_with fail
      refine c1.mono ?_; rintro e w' ⟨rfl, rfl⟩
      go_wp2_with fail
      refine c2.mono ?_; rintro e w' ⟨rfl, rfl⟩
      go_wp2_with fail
      go_ret
      rw [HE.out]
      exact retI_own (Own.nil _ _) (Below.refl _ _)
  · have HE := hid (show fromI f t = [] from if_neg (fun h => hf (ok_of (thB_iff.1 h).1)))
    rw [show mapOkB f = false by simpa using hf] at c1
    clear hf hR
    go_enter Try.func101, Try.ntmps101
    go_wp2_with fail
    refine c1.mono ?_; rintro e w' ⟨rfl, rfl⟩
    go_wp2_with fail
    go_ret
    rw [HE.out]
    exact retI_own (Own.nil _ _) (Below.refl _ _)

end Go.Proofs.Ytenmgiocbdabdaa
