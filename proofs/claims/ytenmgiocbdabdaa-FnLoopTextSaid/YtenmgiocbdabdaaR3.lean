/- Contracts of chapter 5: loops of each length. -/
import Derived.Test.YtenmgiocbdabdaaR2
namespace Go.Proofs.Ytenmgiocbdabdaa
open Go.RowKit
set_option linter.unusedVariables false

theorem OwnRR.kept {B : Nat} {w w' : World} {v : Value} {xss : List (List Int)} {g : Nat} (h : OwnRR B w v xss) (hg : w.grownBy w' (some g)) (hB : g < B) : OwnRR B w' v xss := by
  obtain ⟨vs, hr, he⟩ := h
  refine ⟨vs, ?_, he.kept hg fun u xs ho => ?_⟩
  · rcases hv : v.ownBlock with _ | k
    · exact World.ownsRow.kept hr hg (.inl hv)
    · have := (World.ownsRow.lt hr k hv).1
      exact World.ownsRow.kept hr hg (.inr (by rw [hv]; intro e; injection e with e; omega))
  · rcases hv : u.ownBlock with _ | k
    · exact .inl rfl
    · have := (ho.lt k hv).1
      exact .inr (by intro e; injection e with e; omega)
theorem gl_app_lt {xss : List (List Int)} {z : List Int} {k : Nat} (h : k < xss.length) : gl (xss ++ [z]) k = gl xss k := by simp [gl, List.getD, List.getElem?_append_left h]
theorem gl_app_end (xss : List (List Int)) (z : List Int) : gl (xss ++ [z]) xss.length = z := by simp [gl, List.getD]
theorem loopsK_mem (f : List Int) : ∀ k j, j < (loopsK f k).length → ∃ t, t < k ∧ loopOf f t = t ∧ gl (loopsK f k) j = ints (way f t)
  | 0, j, h => by simp [loopsK] at h
  | k + 1, j, h => by
    rw [loopsK] at h ⊢
    by_cases e : loopOf f k = k
    · rw [if_pos e] at h ⊢
      rw [List.length_append] at h
      by_cases hj : j < (loopsK f k).length
      · obtain ⟨t, h1, h2, h3⟩ := loopsK_mem f k j hj
        exact ⟨t, by omega, h2, by rw [gl_app_lt hj]; exact h3⟩
      · obtain rfl : j = (loopsK f k).length := by simp at h; omega
        exact ⟨k, by omega, e, gl_app_end _ _⟩
    · rw [if_neg e] at h ⊢
      obtain ⟨t, h1, h2, h3⟩ := loopsK_mem f k j h
      exact ⟨t, by omega, h2, h3⟩
theorem loops_long {f : List Int} (hf : Good f) {j : Nat} (h : j < (loopsLL f).length) : 1 ≤ (gl (loopsLL f) j).length ∧ (gl (loopsLL f) j).length ≤ f.length := by
  rw [loopsLL, if_pos (ok_of hf)] at h ⊢
  obtain ⟨t, h1, _, h3⟩ := loopsK_mem f _ j h
  rw [h3, way_len]
  exact ⟨rho_pos hf h1, rho_le hf h1⟩
/-- the loops counted by length, behind j of them -/
def kk (n : Nat) (xss : List (List Int)) : Nat → List Int
  | 0 => List.replicate n 0
  | j + 1 => (kk n xss j).set ((gl xss j).length - 1) (nth (kk n xss j) ((gl xss j).length - 1) + 1)
def kindsL (f : List Int) : List Int := if mapOkB f = true then kk f.length (loopsLL f) (loopsLL f).length else []
theorem kk_len (n : Nat) (xss : List (List Int)) : ∀ j, (kk n xss j).length = n
  | 0 => by simp [kk]
  | j + 1 => by rw [kk, List.length_set, kk_len n xss j]
theorem nth_set (xs : List Int) (i k : Nat) (z : Int) : nth (xs.set i z) k = if i = k ∧ i < xs.length then z else nth xs k := by
  by_cases e : i = k
  · subst e
    by_cases h : i < xs.length
    · simp [nth, h]
    · simp [nth, h]
  · simp [nth, e]
theorem kk_range (n : Nat) (xss : List (List Int)) : ∀ j p, 0 ≤ nth (kk n xss j) p ∧ nth (kk n xss j) p ≤ j
  | 0, p => by
    have : nth (List.replicate n (0 : Int)) p = 0 := by
      by_cases h : p < n <;> simp [nth, h]
    rw [kk, this]; omega
  | j + 1, p => by
    rw [kk, nth_set]
    have h1 := kk_range n xss j p
    have h2 := kk_range n xss j ((gl xss j).length - 1)
    split <;> omega
theorem loopsLL_len (f : List Int) (h : f.length ≤ 7) : (loopsLL f).length ≤ 7 := by
  unfold loopsLL
  split
  · have := loopsK_len f f.length; omega
  · simp

theorem kinds_len (f : List Int) (h : f.length ≤ 1048577) : (kindsL f).length ≤ 1048577 := by
  unfold kindsL
  split
  · rw [kk_len]; omega
  · simp

set_option maxHeartbeats 1000000 in
theorem iLoopKinds_c (A : Option Addr) (c : Nat) (f : List Int) (w : World) (hR : RdA w A f) (hn : f.length ≤ 1048577) :
    Calls Try.prog 76 #[.slice A f.length c] w (RetI w (kindsL f)) := by
  have c1 := iMapOk_c A c f w hR hn
  by_cases hf : mapOkB f = true
  · rw [hf] at c1
    have HE := hid (show kindsL f = kk f.length (loopsLL f) (loopsLL f).length from if_pos hf)
    have HG := hid (good_of hf)
    have h7 := (good_of hf).1.2
    have h1 := (good_of hf).1.1
    have C2 := hid (fun W (hb : Below w.heap.size w W) => iLoopsOf_c A c f W (hR.below hb) hn)
    have HLO := hid (fun j (h : j < (loopsLL f).length) => loops_long HG.out h)
    have hle := loopsLL_len f h7
    clear hf hR
    generalize loopsLL f = L at *
    go_enter Try.func76, Try.ntmps76
    go_wp2_with fail
    refine c1.mono ?_; rintro e w' ⟨rfl, rfl⟩
    clear c1
    go_wp2_with (at_make; refine wpList_mk _ rfl _ _ rfl _ f.length rfl rfl rfl (by omega) ?_; intro w1 hown hb)
    have k2 := hid (C2.out w1 hb)
    clear C2
    go_wp2_with fail
    refine k2.out.mono ?_; rintro e w2 ⟨D, d, rfl, hrr, hb2⟩
    have hG := hown.ge.2
    have hown2 := hown.below hb2
    have hb2' := hb.trans (hb2.mono hb.size)
    clear k2 hown hb hb2
    go_wp2_with fail
    go_loopw [15] (fun i wr => ∃ k : Nat, k ≤ L.length ∧ i = .int .i64 k ∧ Own w.heap.size wr (.slice (some ⟨w.heap.size, 0, none⟩) f.length f.length) (kk f.length L k) ∧ OwnRR w1.heap.size wr (.slice D L.length d) L ∧ Below w.heap.size w wr) (fun i _ => L.length - (intOf i).toNat)
    case atStart => exact ⟨0, Nat.zero_le _, rfl, hown2, hrr, hb2'⟩
    case round =>
      clear hown2 hrr hb2'
      obtain ⟨k, hk, rfl, hown, hrr, hb⟩ := hrel
      by_cases hlt : k < L.length
      · obtain ⟨g, E, e0, rfl, hg, hc, -⟩ := hrr.at_ hlt
        obtain ⟨hl1, hl2⟩ := HLO.out k hlt
        have hr := kk_range f.length L k ((gl L k).length - 1)
        have hc2 := hown.cell (k := (gl L k).length - 1) (by rw [kk_len]; omega)
        have hf2 := hown.frozen ((gl L k).length - 1)
        have hs := hown.store ((gl L k).length - 1) (nth (kk f.length L k) ((gl L k).length - 1) + 1)
        rw [show (kk f.length L k).set ((gl L k).length - 1) (nth (kk f.length L k) ((gl L k).length - 1) + 1) = kk f.length L (k + 1) from rfl] at hs
        have hbs := hb.setCell (p := ⟨w.heap.size, (gl L k).length - 1, none⟩) (Nat.le_refl _) (.int .i64 (nth (kk f.length L k) ((gl L k).length - 1) + 1))
        have hrs := hrr.kept (grown_store (World.grownBy.refl _ _) ((gl L k).length - 1) (.int .i64 (nth (kk f.length L k) ((gl L k).length - 1) + 1))) hG
        have q0 : (((gl L k).length : Int) - 1) = (((gl L k).length - 1 : Nat) : Int) := by omega
        have q1 : IntKind.i64.wrap (((gl L k).length : Int) - 1) = (((gl L k).length - 1 : Nat) : Int) := by rw [IntWalk.i64_in _ (by omega)]; omega
        have q3 : (gl L k).length - 1 < f.length := by omega
        clear hown hb hrr
        generalize nth (kk f.length L k) ((gl L k).length - 1) = X at *
        generalize (gl L k).length - 1 = P at *
        generalize (gl L k).length = Z at *
        go_wp2
        go_roundw
        case rel => exact ⟨k + 1, by omega, by go_num, hs, hrs, hbs⟩
        case measure => simp [intOf]; omega
      · obtain rfl : k = L.length := by omega
        rw [← HE.out] at hown
        go_wp2_with fail
        go_ret
        exact retI_own hown hb
  · have HE := hid (show kindsL f = [] from if_neg hf)
    rw [show mapOkB f = false by simpa using hf] at c1
    clear hf hR
    go_enter Try.func76, Try.ntmps76
    go_wp2_with fail
    refine c1.mono ?_; rintro e w' ⟨rfl, rfl⟩
    go_wp2_with fail
    go_ret
    rw [HE.out]
    exact retI_own (Own.nil _ _) (Below.refl _ _)

set_option maxHeartbeats 1000000 in
theorem sLoopKinds_c (A : Option Addr) (c : Nat) (f : List Int) (w : World) (hR : RdA w A f) (hn : f.length ≤ 1048577) :
    Calls Try.prog 75 #[.slice A f.length c] w (RetI w (kindsL f)) := by
  have c1 := sMapOk_c A c f w hR hn
  by_cases hf : mapOkB f = true
  · rw [hf] at c1
    have HE := hid (show kindsL f = kk f.length (loopsLL f) (loopsLL f).length from if_pos hf)
    have HG := hid (good_of hf)
    have h7 := (good_of hf).1.2
    have h1 := (good_of hf).1.1
    have C2 := hid (fun W (hb : Below w.heap.size w W) => sLoopsOf_c A c f W (hR.below hb) hn)
    have HLO := hid (fun j (h : j < (loopsLL f).length) => loops_long HG.out h)
    have hle := loopsLL_len f h7
    clear hf hR
    generalize loopsLL f = L at *
    go_enter Try.func75, Try.ntmps75
    go_wp2_with fail
    refine c1.mono ?_; rintro e w' ⟨rfl, rfl⟩
    clear c1
    go_wp2_with (at_make; refine wpList_mk _ rfl _ _ rfl _ f.length rfl rfl rfl (by omega) ?_; intro w1 hown hb)
    have k2 := hid (C2.out w1 hb)
    clear C2
    go_wp2_with fail
    refine k2.out.mono ?_; rintro e w2 ⟨D, d, rfl, hrr, hb2⟩
    have hG := hown.ge.2
    have hown2 := hown.below hb2
    have hb2' := hb.trans (hb2.mono hb.size)
    clear k2 hown hb hb2
    go_wp2_with fail
    go_loopw [5] (fun i wr => ∃ k : Nat, k ≤ L.length ∧ i = .int .i64 k ∧ Own w.heap.size wr (.slice (some ⟨w.heap.size, 0, none⟩) f.length f.length) (kk f.length L k) ∧ OwnRR w1.heap.size wr (.slice D L.length d) L ∧ Below w.heap.size w wr) (fun i _ => L.length - (intOf i).toNat)
    case atStart => exact ⟨0, Nat.zero_le _, rfl, hown2, hrr, hb2'⟩
    case round =>
      clear hown2 hrr hb2'
      obtain ⟨k, hk, rfl, hown, hrr, hb⟩ := hrel
      by_cases hlt : k < L.length
      · obtain ⟨g, E, e0, rfl, hg, hc, -⟩ := hrr.at_ hlt
        obtain ⟨hl1, hl2⟩ := HLO.out k hlt
        have hr := kk_range f.length L k ((gl L k).length - 1)
        have hc2 := hown.cell (k := (gl L k).length - 1) (by rw [kk_len]; omega)
        have hf2 := hown.frozen ((gl L k).length - 1)
        have hs := hown.store ((gl L k).length - 1) (nth (kk f.length L k) ((gl L k).length - 1) + 1)
        rw [show (kk f.length L k).set ((gl L k).length - 1) (nth (kk f.length L k) ((gl L k).length - 1) + 1) = kk f.length L (k + 1) from rfl] at hs
        have hbs := hb.setCell (p := ⟨w.heap.size, (gl L k).length - 1, none⟩) (Nat.le_refl _) (.int .i64 (nth (kk f.length L k) ((gl L k).length - 1) + 1))
        have hrs := hrr.kept (grown_store (World.grownBy.refl _ _) ((gl L k).length - 1) (.int .i64 (nth (kk f.length L k) ((gl L k).length - 1) + 1))) hG
        have q0 : (((gl L k).length : Int) - 1) = (((gl L k).length - 1 : Nat) : Int) := by omega
        have q1 : IntKind.i64.wrap (((gl L k).length : Int) - 1) = (((gl L k).length - 1 : Nat) : Int) := by rw [IntWalk.i64_in _ (by omega)]; omega
        have q3 : (gl L k).length - 1 < f.length := by omega
        clear hown hb hrr
        generalize nth (kk f.length L k) ((gl L k).length - 1) = X at *
        generalize (gl L k).length - 1 = P at *
        generalize (gl L k).length = Z at *
        go_wp2
        go_region
        all_goals go_wp2
        all_goals go_roundw
        case rel => exact ⟨k + 1, by omega, by go_num, by first | exact hs.drew | exact hs, by first | exact hrs.drew | exact hrs, by first | exact hbs.drew | exact hbs⟩
        case measure => simp [intOf]; omega
      · obtain rfl : k = L.length := by omega
        rw [← HE.out] at hown
        go_wp2_with fail
        go_ret
        exact retI_own hown hb
  · have HE := hid (show kindsL f = [] from if_neg hf)
    rw [show mapOkB f = false by simpa using hf] at c1
    clear hf hR
    go_enter Try.func75, Try.ntmps75
    go_wp2_with fail
    refine c1.mono ?_; rintro e w' ⟨rfl, rfl⟩
    go_wp2_with fail
    go_ret
    rw [HE.out]
    exact retI_own (own_empty w) ((Below.refl _ _).alloc (Nat.le_refl _) _)

end Go.Proofs.Ytenmgiocbdabdaa
