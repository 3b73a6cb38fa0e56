/- Steps on the way to the law; each part says what it proves. -/
import Derived.Test.YtkbfcaaihellfaaV10

set_option linter.unusedSimpArgs false

/- Contracts of chapter 2: all loops. -/
namespace Go.Proofs.Ytkbfcaaihellfaa
open Go.RowKit
set_option linter.unusedVariables false

/-- the loops whose least things are among the first k -/
def loopsK (f : List Int) : Nat → List (List Int)
  | 0 => []
  | k + 1 => if loopOf f k = k then loopsK f k ++ [ints (way f k)] else loopsK f k
def loopsLL (f : List Int) : List (List Int) := if mapOkB f = true then loopsK f f.length else []
theorem loopsK_len (f : List Int) : ∀ k, (loopsK f k).length ≤ k
  | 0 => by simp [loopsK]
  | k + 1 => by
    have := loopsK_len f k
    rw [loopsK]
    split
    · rw [List.length_append]; simp; omega
    · omega
/-- new rows are handed back -/
def RetRR (w : World) (xss : List (List Int)) (e : Ending) (w' : World) : Prop := ∃ A c, e = .returned (.slice A xss.length c) ∧ OwnRR w.heap.size w' (.slice A xss.length c) xss ∧ Below w.heap.size w w'
theorem retRR_own {w wr : World} {v : Value} {L : List (List Int)} (ho : OwnRR w.heap.size wr v L) (hb : Below w.heap.size w wr) : RetRR w L (.returned v) wr := by
  obtain ⟨A, c, rfl⟩ := ho.form
  exact ⟨A, c, rfl, ho, hb⟩
theorem cell_oneS (w : World) (v : Value) (t : TypeId) : (w.alloc (.cells #[v] t)).cell? ⟨w.heap.size, 0, none⟩ = some v := by
  rw [World.cell?_alloc_at _ _ _ _ rfl]; rfl

set_option maxHeartbeats 1000000 in
theorem iLoopsOf_c (A : Option Addr) (c : Nat) (f : List Int) (w : World) (hR : RdA w A f) (hn : f.length ≤ 1048577) :
    Calls Try.prog 68 #[.slice A f.length c] w (RetRR w (loopsLL f)) := by
  have c1 := iMapOk_c A c f w hR hn
  by_cases hf : mapOkB f = true
  · rw [hf] at c1
    have HE := hid (show loopsLL f = loopsK f f.length from if_pos hf)
    have HG := hid (good_of hf)
    have h7 := (good_of hf).1.2
    have C2 := hid (fun (t : Int) W (hb : Below w.heap.size w W) => iLoopOf_c A c f t W (hR.below hb) hn)
    have C3 := hid (fun (t : Int) W (hb : Below w.heap.size w W) => iWayFrom_c A c f t W (hR.below hb) hn)
    clear hf hR
    go_enter Try.func68, Try.ntmps68
    go_wp2_with fail
    refine c1.mono ?_; rintro e w' ⟨rfl, rfl⟩
    clear c1
    go_wp2_with fail
    go_loopw [3, 10] (fun v i wr => ∃ k : Nat, k ≤ f.length ∧ i = .int .i64 k ∧ OwnRR w.heap.size wr v (loopsK f k) ∧ Below w.heap.size w wr) (fun _ i _ => f.length - (intOf i).toNat)
    case atStart => exact ⟨0, Nat.zero_le _, rfl, OwnRR.nil _ _, Below.refl _ _⟩
    case round =>
      obtain ⟨k, hk, rfl, ho, hb⟩ := hrel
      by_cases hlt : k < f.length
      · have c2 := C2.out k wr hb
        rw [lotV_yes (th_of HG.out hlt)] at c2
        have HLEN := hid (loopsK_len f k)
        by_cases hlk : loopOf f k = k
        · have HS := hid (show loopsK f (k + 1) = loopsK f k ++ [ints (way f k)] by rw [loopsK, if_pos hlk])
          rw [hlk] at c2
          have K3 := hid (fun W hb => C3.out (k : Int) W hb)
          rw [wayL_yes (th_of HG.out hlt)] at K3
          generalize loopsK f k = M at *
          generalize ints (way f k) = Z at *
          clear C2 C3 hlk
          go_wp2_with fail
          refine c2.mono ?_; rintro e w2 ⟨rfl, hb2⟩
          have hb2' := hb.trans (hb2.mono hb.size)
          have k3 := hid (K3.out w2 hb2')
          clear K3
          go_wp2_with fail
          refine k3.out.mono ?_; rintro e w3 ⟨D, d, rfl, hz, hb3⟩
          have hb3' := hb2'.trans (hb3.mono hb2'.size)
          have ho3 := (ho.below (hb2.mono (Nat.le_refl _))).below (hb3.mono (Nat.le_refl _))
          have hz3 := hz.mono hb2'.size
          have hsz := hb3'.size
          go_wp2_with (at_builtin; refine wpList_appR _ rfl _ _ rfl w.heap.size _ M rfl (ho3.alloc _) w3.heap.size D d Z (hz3.alloc _) rfl (cell_oneS _ _ _) (by have := HLEN.out; omega) (by simp <;> omega) ?_; intro A4 c4 w4 o4 b4)
          have b4' : Below w.heap.size w w4 := (hb3'.alloc hsz _).trans b4
          clear b4 ho ho3 hz hz3
          go_wp2_with fail
          go_roundw
          case rel => exact ⟨k + 1, by omega, by go_num, by rw [HS.out]; exact o4, b4'⟩
          case measure => simp [intOf]; omega
        · have HS := hid (show loopsK f (k + 1) = loopsK f k by rw [loopsK, if_neg hlk])
          have q : ((loopOf f k : Int) == (k : Int)) = false := by simp; omega
          generalize loopsK f k = M at *
          generalize loopOf f k = T at *
          clear C2 C3 hlk
          go_wp2_with fail
          refine c2.mono ?_; rintro e w2 ⟨rfl, hb2⟩
          go_wp2_with fail
          go_roundw
          case rel => exact ⟨k + 1, by omega, by go_num, by rw [HS.out]; exact ho.below (hb2.mono (Nat.le_refl _)), hb.trans (hb2.mono hb.size)⟩
          case measure => simp [intOf]; omega
      · obtain rfl : k = f.length := by omega
        clear C2 C3
        rw [← HE.out] at ho
        obtain ⟨A4, c4, rfl⟩ := ho.form
        go_wp2_with fail
        go_ret
        exact retRR_own ho hb
  · have HE := hid (show loopsLL f = [] from if_neg hf)
    rw [show mapOkB f = false by simpa using hf] at c1
    clear hf hR
    go_enter Try.func68, Try.ntmps68
    go_wp2_with fail
    refine c1.mono ?_; rintro e w' ⟨rfl, rfl⟩
    go_wp2_with fail
    go_ret
    rw [HE.out]
    exact retRR_own (OwnRR.nil _ _) (Below.refl _ _)

set_option maxHeartbeats 1000000 in
theorem sLoopsOf_c (A : Option Addr) (c : Nat) (f : List Int) (w : World) (hR : RdA w A f) (hn : f.length ≤ 1048577) :
    Calls Try.prog 69 #[.slice A f.length c] w (RetRR w (loopsLL f)) := by
  have o0 := OwnRR.new_ w
  have b0 : Below w.heap.size w (w.alloc (.cells #[] 22)) := (Below.refl _ _).alloc (Nat.le_refl _) _
  have C1 := hid (fun W (hb : Below w.heap.size w W) => sMapOk_c A c f W (hR.below hb) hn)
  by_cases hf : mapOkB f = true
  · rw [hf] at C1
    have HE := hid (show loopsLL f = loopsK f f.length from if_pos hf)
    have HG := hid (good_of hf)
    have h7 := (good_of hf).1.2
    have C2 := hid (fun (t : Int) W (hb : Below w.heap.size w W) => sLoopOf_c A c f t W (hR.below hb) hn)
    have C3 := hid (fun (t : Int) W (hb : Below w.heap.size w W) => sWayFrom_c A c f t W (hR.below hb) hn)
    have C5 := hid (fun (t : Int) W (hb : Below w.heap.size w W) => sOnLoop_c A c f t W (hR.below hb) hn)
    clear hf hR
    go_enter Try.func69, Try.ntmps69
    go_wp2_with fail
    go_loopw [3, 4] (fun v i wr => ∃ k : Nat, k ≤ f.length ∧ i = .int .i64 k ∧ OwnRR w.heap.size wr v (loopsK f k) ∧ Below w.heap.size w wr) (fun _ i _ => f.length - (intOf i).toNat)
    case atStart => exact ⟨0, Nat.zero_le _, rfl, o0, b0⟩
    case round =>
      clear o0 b0
      obtain ⟨k, hk, rfl, ho, hb⟩ := hrel
      have K1 := hid (C1.out wr hb)
      by_cases hlt : k < f.length
      · have c5 := C5.out k wr hb
        rw [tailV_yes (th_of HG.out hlt)] at c5
        have K2 := hid (fun W hb => C2.out (k : Int) W hb)
        rw [lotV_yes (th_of HG.out hlt)] at K2
        have HLEN := hid (loopsK_len f k)
        by_cases hlk : loopOf f k = k
        · have HS := hid (show loopsK f (k + 1) = loopsK f k ++ [ints (way f k)] by rw [loopsK, if_pos hlk])
          rw [hlk] at K2
          rw [loopOf_self HG.out hlt hlk] at c5
          have K3 := hid (fun W hb => C3.out (k : Int) W hb)
          rw [wayL_yes (th_of HG.out hlt)] at K3
          generalize loopsK f k = M at *
          generalize ints (way f k) = Z at *
          clear C1 C2 C3 C5 hlk
          go_wp2_with fail
          refine K1.out.mono ?_; rintro e w' ⟨rfl, rfl⟩
          go_wp2_with fail
          refine c5.mono ?_; rintro e w1 ⟨rfl, hb1⟩
          have hb1' := hb.trans (hb1.mono hb.size)
          have k2 := hid (K2.out w1 hb1')
          clear K2
          go_wp2_with fail
          refine k2.out.mono ?_; rintro e w2 ⟨rfl, hb2⟩
          have hb2' := hb1'.trans (hb2.mono hb1'.size)
          have k3 := hid (K3.out w2 hb2')
          clear K3 k2
          go_wp2_with fail
          refine k3.out.mono ?_; rintro e w3 ⟨D, d, rfl, hz, hb3⟩
          have hb3' := hb2'.trans (hb3.mono hb2'.size)
          have ho3 := ((ho.below (hb1.mono (Nat.le_refl _))).below (hb2.mono (Nat.le_refl _))).below (hb3.mono (Nat.le_refl _))
          have hz3 := hz.mono hb2'.size
          have hsz := hb3'.size
          go_wp2_with (at_builtin; refine wpList_appR _ rfl _ _ rfl w.heap.size _ M rfl (ho3.alloc _) w3.heap.size D d Z (hz3.alloc _) rfl (cell_oneS _ _ _) (by have := HLEN.out; omega) (by simp <;> omega) ?_; intro A4 c4 w4 o4 b4)
          have b4' : Below w.heap.size w w4 := (hb3'.alloc hsz _).trans b4
          clear b4 ho ho3 hz hz3
          go_wp2_with fail
          go_roundw
          case rel => exact ⟨k + 1, by omega, by go_num, by rw [HS.out]; exact o4, b4'⟩
          case measure => simp [intOf]; omega
        · have HS := hid (show loopsK f (k + 1) = loopsK f k by rw [loopsK, if_neg hlk])
          have q : ((loopOf f k : Int) == (k : Int)) = false := by simp; omega
          by_cases ht : tail f k = 0
          · rw [ht] at c5
            generalize loopsK f k = M at *
            generalize loopOf f k = T at *
            clear C1 C2 C3 C5 hlk ht
            go_wp2_with fail
            refine K1.out.mono ?_; rintro e w' ⟨rfl, rfl⟩
            go_wp2_with fail
            refine c5.mono ?_; rintro e w1 ⟨rfl, hb1⟩
            have hb1' := hb.trans (hb1.mono hb.size)
            have k2 := hid (K2.out w1 hb1')
            clear K2
            go_wp2_with fail
            refine k2.out.mono ?_; rintro e w2 ⟨rfl, hb2⟩
            go_wp2_with fail
            go_roundw
            case rel => exact ⟨k + 1, by omega, by go_num, by rw [HS.out]; exact (ho.below (hb1.mono (Nat.le_refl _))).below (hb2.mono (Nat.le_refl _)), hb1'.trans (hb2.mono hb1'.size)⟩
            case measure => simp [intOf]; omega
          · have q2 : ((tail f k : Int) == 0) = false := by simp; omega
            generalize loopsK f k = M at *
            generalize loopOf f k = T at *
            generalize tail f k = U at *
            clear C1 C2 C3 C5 hlk ht K2
            go_wp2_with fail
            refine K1.out.mono ?_; rintro e w' ⟨rfl, rfl⟩
            go_wp2_with fail
            refine c5.mono ?_; rintro e w1 ⟨rfl, hb1⟩
            have hb1' := hb.trans (hb1.mono hb.size)
            go_wp2_with fail
            go_roundw
            case rel => exact ⟨k + 1, by omega, by go_num, by rw [HS.out]; exact ho.below (hb1.mono (Nat.le_refl _)), hb1'⟩
            case measure => simp [intOf]; omega
      · obtain rfl : k = f.length := by omega
        clear C1 C2 C3 C5
        rw [← HE.out] at ho
        obtain ⟨A4, c4, rfl⟩ := ho.form
        go_wp2_with fail
        go_ret
        exact retRR_own ho hb
  · have HE := hid (show loopsLL f = [] from if_neg hf)
    rw [show mapOkB f = false by simpa using hf] at C1
    have K1 := hid (C1.out _ b0)
    clear hf hR C1
    by_cases h0 : 0 < f.length
    · go_enter Try.func69, Try.ntmps69
      go_wp2_with fail
      refine wp_loop_rounds 1 ?_
      rw [rounds_succ]
      go_wp2_with fail
      refine K1.out.mono ?_; rintro e w' ⟨rfl, rfl⟩
      go_wp2_with fail
      go_ret
      rw [HE.out]
      exact retRR_own o0 b0
    · have q1 : decide ((0 : Int) < (f.length : Int)) = false := decide_eq_false (by omega)
      have q0 : decide (0 < f.length) = false := decide_eq_false (by omega)
      clear h0
      go_enter Try.func69, Try.ntmps69
      go_wp2_with fail
      refine wp_loop_rounds 1 ?_
      rw [rounds_succ]
      go_wp2_with fail
      go_ret
      rw [HE.out]
      exact retRR_own o0 b0

end Go.Proofs.Ytkbfcaaihellfaa

/- Contracts of chapter 5: loops of each length. -/
namespace Go.Proofs.Ytkbfcaaihellfaa
open Go.RowKit
set_option linter.unusedVariables false

theorem OwnRR.kept {B : Nat} {w w' : World} {v : Value} {xss : List (List Int)} {g : Nat} (h : OwnRR B w v xss) (hg : w.grownBy w' (some g)) (hB : g < B) : OwnRR B w' v xss := by
  obtain ⟨vs, hr, he⟩ := h
  refine ⟨vs, ?_, he.kept hg fun u xs ho => ?_⟩
  · rcases hv : v.ownBlock with _ | k
    · exact World.ownsRow.kept hr hg (.inl hv)
    · have := (World.ownsRow.lt hr k hv).1
      exact World.ownsRow.kept hr hg (.inr (by rw [hv]; intro e; injection e with e; omega))
  · rcases hv : u.ownBlock with _ | k
    · exact .inl rfl
    · have := (ho.lt k hv).1
      exact .inr (by intro e; injection e with e; omega)
theorem gl_app_lt {xss : List (List Int)} {z : List Int} {k : Nat} (h : k < xss.length) : gl (xss ++ [z]) k = gl xss k := by simp [gl, List.getD, List.getElem?_append_left h]
theorem gl_app_end (xss : List (List Int)) (z : List Int) : gl (xss ++ [z]) xss.length = z := by simp [gl, List.getD]
theorem loopsK_mem (f : List Int) : ∀ k j, j < (loopsK f k).length → ∃ t, t < k ∧ loopOf f t = t ∧ gl (loopsK f k) j = ints (way f t)
  | 0, j, h => by simp [loopsK] at h
  | k + 1, j, h => by
    rw [loopsK] at h ⊢
    by_cases e : loopOf f k = k
    · rw [if_pos e] at h ⊢
      rw [List.length_append] at h
      by_cases hj : j < (loopsK f k).length
      · obtain ⟨t, h1, h2, h3⟩ := loopsK_mem f k j hj
        exact ⟨t, by omega, h2, by rw [gl_app_lt hj]; exact h3⟩
      · obtain rfl : j = (loopsK f k).length := by simp at h; omega
        exact ⟨k, by omega, e, gl_app_end _ _⟩
    · rw [if_neg e] at h ⊢
      obtain ⟨t, h1, h2, h3⟩ := loopsK_mem f k j h
      exact ⟨t, by omega, h2, h3⟩
theorem loops_long {f : List Int} (hf : Good f) {j : Nat} (h : j < (loopsLL f).length) : 1 ≤ (gl (loopsLL f) j).length ∧ (gl (loopsLL f) j).length ≤ f.length := by
  rw [loopsLL, if_pos (ok_of hf)] at h ⊢
  obtain ⟨t, h1, _, h3⟩ := loopsK_mem f _ j h
  rw [h3, way_len]
  exact ⟨rho_pos hf h1, rho_le hf h1⟩
/-- the loops counted by length, behind j of them -/
def kk (n : Nat) (xss : List (List Int)) : Nat → List Int
  | 0 => List.replicate n 0
  | j + 1 => (kk n xss j).set ((gl xss j).length - 1) (nth (kk n xss j) ((gl xss j).length - 1) + 1)
def kindsL (f : List Int) : List Int := if mapOkB f = true then kk f.length (loopsLL f) (loopsLL f).length else []
theorem kk_len (n : Nat) (xss : List (List Int)) : ∀ j, (kk n xss j).length = n
  | 0 => by simp [kk]
  | j + 1 => by rw [kk, List.length_set, kk_len n xss j]
theorem nth_set (xs : List Int) (i k : Nat) (z : Int) : nth (xs.set i z) k = if i = k ∧ i < xs.length then z else nth xs k := by
  by_cases e : i = k
  · subst e
    by_cases h : i < xs.length
    · simp [nth, h]
    · simp [nth, h]
  · simp [nth, e]
theorem kk_range (n : Nat) (xss : List (List Int)) : ∀ j p, 0 ≤ nth (kk n xss j) p ∧ nth (kk n xss j) p ≤ j
  | 0, p => by
    have : nth (List.replicate n (0 : Int)) p = 0 := by
      by_cases h : p < n <;> simp [nth, h]
    rw [kk, this]; omega
  | j + 1, p => by
    rw [kk, nth_set]
    have h1 := kk_range n xss j p
    have h2 := kk_range n xss j ((gl xss j).length - 1)
    split <;> omega
theorem loopsLL_len (f : List Int) (h : f.length ≤ 7) : (loopsLL f).length ≤ 7 := by
  unfold loopsLL
  split
  · have := loopsK_len f f.length; omega
  · simp

theorem kinds_len (f : List Int) (h : f.length ≤ 1048577) : (kindsL f).length ≤ 1048577 := by
  unfold kindsL
  split
  · rw [kk_len]; omega
  · simp

set_option maxHeartbeats 1000000 in
theorem iLoopKinds_c (A : Option Addr) (c : Nat) (f : List Int) (w : World) (hR : RdA w A f) (hn : f.length ≤ 1048577) :
    Calls Try.prog 52 #[.slice A f.length c] w (RetI w (kindsL f)) := by
  have c1 := iMapOk_c A c f w hR hn
  by_cases hf : mapOkB f = true
  · rw [hf] at c1
    have HE := hid (show kindsL f = kk f.length (loopsLL f) (loopsLL f).length from if_pos hf)
    have HG := hid (good_of hf)
    have h7 := (good_of hf).1.2
    have h1 := (good_of hf).1.1
    have C2 := hid (fun W (hb : Below w.heap.size w W) => iLoopsOf_c A c f W (hR.below hb) hn)
    have HLO := hid (fun j (h : j < (loopsLL f).length) => loops_long HG.out h)
    have hle := loopsLL_len f h7
    clear hf hR
    generalize loopsLL f = L at *
    go_enter Try.func52, Try.ntmps52
    go_wp2_with fail
    refine c1.mono ?_; rintro e w' ⟨rfl, rfl⟩
    clear c1
    go_wp2_with (at_make; refine wpList_mk _ rfl _ _ rfl _ f.length rfl rfl rfl (by omega) ?_; intro w1 hown hb)
    have k2 := hid (C2.out w1 hb)
    clear C2
    go_wp2_with fail
    refine k2.out.mono ?_; rintro e w2 ⟨D, d, rfl, hrr, hb2⟩
    have hG := hown.ge.2
    have hown2 := hown.below hb2
    have hb2' := hb.trans (hb2.mono hb.size)
    clear k2 hown hb hb2
    go_wp2_with fail
    go_loopw [15] (fun i wr => ∃ k : Nat, k ≤ L.length ∧ i = .int .i64 k ∧ Own w.heap.size wr (.slice (some ⟨w.heap.size, 0, none⟩) f.length f.length) (kk f.length L k) ∧ OwnRR w1.heap.size wr (.slice D L.length d) L ∧ Below w.heap.size w wr) (fun i _ => L.length - (intOf i).toNat)
    case atStart => exact ⟨0, Nat.zero_le _, rfl, hown2, hrr, hb2'⟩
    case round =>
      clear hown2 hrr hb2'
      obtain ⟨k, hk, rfl, hown, hrr, hb⟩ := hrel
      by_cases hlt : k < L.length
      · obtain ⟨g, E, e0, rfl, hg, hc, -⟩ := hrr.at_ hlt
        obtain ⟨hl1, hl2⟩ := HLO.out k hlt
        have hr := kk_range f.length L k ((gl L k).length - 1)
        have hc2 := hown.cell (k := (gl L k).length - 1) (by rw [kk_len]; omega)
        have hf2 := hown.frozen ((gl L k).length - 1)
        have hs := hown.store ((gl L k).length - 1) (nth (kk f.length L k) ((gl L k).length - 1) + 1)
        rw [show (kk f.length L k).set ((gl L k).length - 1) (nth (kk f.length L k) ((gl L k).length - 1) + 1) = kk f.length L (k + 1) from rfl] at hs
        have hbs := hb.setCell (p := ⟨w.heap.size, (gl L k).length - 1, none⟩) (Nat.le_refl _) (.int .i64 (nth (kk f.length L k) ((gl L k).length - 1) + 1))
        have hrs := hrr.kept (grown_store (World.grownBy.refl _ _) ((gl L k).length - 1) (.int .i64 (nth (kk f.length L k) ((gl L k).length - 1) + 1))) hG
        have q0 : (((gl L k).length : Int) - 1) = (((gl L k).length - 1 : Nat) : Int) := by omega
        have q1 : IntKind.i64.wrap (((gl L k).length : Int) - 1) = (((gl L k).length - 1 : Nat) : Int) := by rw [IntWalk.i64_in _ (by omega)]; omega
        have q3 : (gl L k).length - 1 < f.length := by omega
        clear hown hb hrr
        generalize nth (kk f.length L k) ((gl L k).length - 1) = X at *
        generalize (gl L k).length - 1 = P at *
        generalize (gl L k).length = Z at *
        go_wp2
        go_roundw
        case rel => exact ⟨k + 1, by omega, by go_num, hs, hrs, hbs⟩
        case measure => simp [intOf]; omega
      · obtain rfl : k = L.length := by omega
        rw [← HE.out] at hown
        go_wp2_with fail
        go_ret
        exact retI_own hown hb
  · have HE := hid (show kindsL f = [] from if_neg hf)
    rw [show mapOkB f = false by simpa using hf] at c1
    clear hf hR
    go_enter Try.func52, Try.ntmps52
    go_wp2_with fail
    refine c1.mono ?_; rintro e w' ⟨rfl, rfl⟩
    go_wp2_with fail
    go_ret
    rw [HE.out]
    exact retI_own (Own.nil _ _) (Below.refl _ _)

set_option maxHeartbeats 1000000 in
theorem sLoopKinds_c (A : Option Addr) (c : Nat) (f : List Int) (w : World) (hR : RdA w A f) (hn : f.length ≤ 1048577) :
    Calls Try.prog 53 #[.slice A f.length c] w (RetI w (kindsL f)) := by
  have c1 := sMapOk_c A c f w hR hn
  by_cases hf : mapOkB f = true
  · rw [hf] at c1
    have HE := hid (show kindsL f = kk f.length (loopsLL f) (loopsLL f).length from if_pos hf)
    have HG := hid (good_of hf)
    have h7 := (good_of hf).1.2
    have h1 := (good_of hf).1.1
    have C2 := hid (fun W (hb : Below w.heap.size w W) => sLoopsOf_c A c f W (hR.below hb) hn)
    have HLO := hid (fun j (h : j < (loopsLL f).length) => loops_long HG.out h)
    have hle := loopsLL_len f h7
    clear hf hR
    generalize loopsLL f = L at *
    go_enter Try.func53, Try.ntmps53
    go_wp2_with fail
    refine c1.mono ?_; rintro e w' ⟨rfl, rfl⟩
    clear c1
    go_wp2_with (at_make; refine wpList_mk _ rfl _ _ rfl _ f.length rfl rfl rfl (by omega) ?_; intro w1 hown hb)
    have k2 := hid (C2.out w1 hb)
    clear C2
    go_wp2_with fail
    refine k2.out.mono ?_; rintro e w2 ⟨D, d, rfl, hrr, hb2⟩
    have hG := hown.ge.2
    have hown2 := hown.below hb2
    have hb2' := hb.trans (hb2.mono hb.size)
    clear k2 hown hb hb2
    go_wp2_with fail
    go_loopw [5] (fun i wr => ∃ k : Nat, k ≤ L.length ∧ i = .int .i64 k ∧ Own w.heap.size wr (.slice (some ⟨w.heap.size, 0, none⟩) f.length f.length) (kk f.length L k) ∧ OwnRR w1.heap.size wr (.slice D L.length d) L ∧ Below w.heap.size w wr) (fun i _ => L.length - (intOf i).toNat)
    case atStart => exact ⟨0, Nat.zero_le _, rfl, hown2, hrr, hb2'⟩
    case round =>
      clear hown2 hrr hb2'
      obtain ⟨k, hk, rfl, hown, hrr, hb⟩ := hrel
      by_cases hlt : k < L.length
      · obtain ⟨g, E, e0, rfl, hg, hc, -⟩ := hrr.at_ hlt
        obtain ⟨hl1, hl2⟩ := HLO.out k hlt
        have hr := kk_range f.length L k ((gl L k).length - 1)
        have hc2 := hown.cell (k := (gl L k).length - 1) (by rw [kk_len]; omega)
        have hf2 := hown.frozen ((gl L k).length - 1)
        have hs := hown.store ((gl L k).length - 1) (nth (kk f.length L k) ((gl L k).length - 1) + 1)
        rw [show (kk f.length L k).set ((gl L k).length - 1) (nth (kk f.length L k) ((gl L k).length - 1) + 1) = kk f.length L (k + 1) from rfl] at hs
        have hbs := hb.setCell (p := ⟨w.heap.size, (gl L k).length - 1, none⟩) (Nat.le_refl _) (.int .i64 (nth (kk f.length L k) ((gl L k).length - 1) + 1))
        have hrs := hrr.kept (grown_store (World.grownBy.refl _ _) ((gl L k).length - 1) (.int .i64 (nth (kk f.length L k) ((gl L k).length - 1) + 1))) hG
        have q0 : (((gl L k).length : Int) - 1) = (((gl L k).length - 1 : Nat) : Int) := by omega
        have q1 : IntKind.i64.wrap (((gl L k).length : Int) - 1) = (((gl L k).length - 1 : Nat) : Int) := by rw [IntWalk.i64_in _ (by omega)]; omega
        have q3 : (gl L k).length - 1 < f.length := by omega
        clear hown hb hrr
        generalize nth (kk f.length L k) ((gl L k).length - 1) = X at *
        generalize (gl L k).length - 1 = P at *
        generalize (gl L k).length = Z at *
        go_wp2
        go_region
        all_goals go_wp2
        all_goals go_roundw
        case rel => exact ⟨k + 1, by omega, by go_num, by first | exact hs.drew | exact hs, by first | exact hrs.drew | exact hrs, by first | exact hbs.drew | exact hbs⟩
        case measure => simp [intOf]; omega
      · obtain rfl : k = L.length := by omega
        rw [← HE.out] at hown
        go_wp2_with fail
        go_ret
        exact retI_own hown hb
  · have HE := hid (show kindsL f = [] from if_neg hf)
    rw [show mapOkB f = false by simpa using hf] at c1
    clear hf hR
    go_enter Try.func53, Try.ntmps53
    go_wp2_with fail
    refine c1.mono ?_; rintro e w' ⟨rfl, rfl⟩
    go_wp2_with fail
    go_ret
    rw [HE.out]
    exact retI_own (own_empty w) ((Below.refl _ _).alloc (Nat.le_refl _) _)

end Go.Proofs.Ytkbfcaaihellfaa

/- Contracts of chapter 4: divisors, periods. -/
namespace Go.Proofs.Ytkbfcaaihellfaa
open Go.RowKit
set_option linter.unusedVariables false

/-- the least number that the lengths of the first j loops divide -/
def per (xss : List (List Int)) : Nat → Nat
  | 0 => 1
  | j + 1 => per xss j / Nat.gcd (per xss j) (gl xss j).length * (gl xss j).length
theorem per_bound (xss : List (List Int)) (h : ∀ j, j < xss.length → 1 ≤ (gl xss j).length ∧ (gl xss j).length ≤ 7) : ∀ j, j ≤ xss.length → 1 ≤ per xss j ∧ per xss j ≤ 7 ^ j
  | 0, _ => by simp [per]
  | j + 1, hj => by
    obtain ⟨h1, h2⟩ := per_bound xss h j (by omega)
    obtain ⟨h3, h4⟩ := h j (by omega)
    rw [per]
    have hd : Nat.gcd (per xss j) (gl xss j).length ∣ per xss j := Nat.gcd_dvd_left _ _
    have hq : 1 ≤ per xss j / Nat.gcd (per xss j) (gl xss j).length := Nat.div_pos (Nat.le_of_dvd h1 hd) (Nat.gcd_pos_of_pos_left _ h1)
    refine ⟨Nat.le_trans (by omega) (Nat.mul_le_mul hq h3), ?_⟩
    rw [Nat.pow_succ]
    exact Nat.mul_le_mul (Nat.le_trans (Nat.div_le_self _ _) h2) h4
def periodV (f : List Int) : Int := if mapOkB f = true then (per (loopsLL f) (loopsLL f).length : Int) else -1



theorem pow7 : ∀ j, j ≤ 7 → 7 ^ j ≤ 823543 := fun j hj => Nat.pow_le_pow_right (n := 7) (by omega) hj


end Go.Proofs.Ytkbfcaaihellfaa

/- Plain law: powers of a map, its index and period. No program in sight. -/
namespace Go.Proofs.Ytkbfcaaihellfaa
set_option linter.unusedVariables false

/-- the map put behind itself m times, as a row -/
def pw (f : List Int) (m : Nat) : List Int := mk f.length (it f m)
def powL (f : List Int) (n : Int) : List Int := if mapOkB f = true ∧ 0 ≤ n ∧ n ≤ 1000000 then pw f n.toNat else []
theorem pw_len (f : List Int) (m : Nat) : (pw f m).length = f.length := mk_len _ _
theorem good_pw {f : List Int} (hf : Good f) (m : Nat) : Good (pw f m) := good_mk hf.1 fun k hk => hf.it_lt hk m
theorem ap_pw {f : List Int} {k : Nat} (hk : k < f.length) (m : Nat) : ap (pw f m) k = it f m k := ap_mk hk
theorem behind_pw {f : List Int} (hf : Good f) (a b : Nat) : behindL (pw f a) (pw f b) = pw f (b + a) := by
  rw [behindL_good (good_pw hf a) (good_pw hf b) (by rw [pw_len, pw_len]), pw_len]
  show _ = mk f.length (it f (b + a))
  refine mk_congr fun k hk => ?_
  rw [ap_pw hk, ap_pw (hf.it_lt hk a), it_add]
theorem pw_one {f : List Int} (hf : Good f) : pw f 1 = f := (eq_mk hf).symm
theorem pw_zero {f : List Int} (hf : Good f) : pw f 0 = sameL f.length := by
  have h := hf.1
  rw [sameL, if_pos (by omega), Int.toNat_natCast]
  rfl
theorem powL_yes {f : List Int} (hf : Good f) {m : Nat} (hm : m ≤ 1000000) : powL f m = pw f m := by
  rw [powL, if_pos ⟨ok_of hf, by omega, by omega⟩, Int.toNat_natCast]
theorem powL_no {f : List Int} {n : Int} (h : ¬ (mapOkB f = true ∧ 0 ≤ n ∧ n ≤ 1000000)) : powL f n = [] := if_neg h
theorem powL_len (f : List Int) (n : Int) (h : f.length ≤ 1048577) : (powL f n).length ≤ 1048577 := by
  unfold powL
  split
  · rw [pw_len]; exact h
  · simp
theorem pw_ne {f : List Int} (hf : Good f) (m : Nat) : pw f m ≠ [] := fun e => by
  have := pw_len f m
  rw [e] at this
  have h := hf.1
  simp at this
  omega
theorem pw_eq_iff {f : List Int} (hf : Good f) {a b : Nat} (hab : a < b) : pw f a = pw f b ↔ ∀ t, t < f.length → tail f t ≤ a ∧ loop f t ∣ b - a := by
  rw [pw, pw, mk_eq_iff]
  exact ⟨fun h t ht => (it_eq_iff hf ht hab).1 (h t ht), fun h t ht => (it_eq_iff hf ht hab).2 (h t ht)⟩
theorem idem_pw {f : List Int} (hf : Good f) {m : Nat} (hm : 0 < m) : idemB (pw f m) = true ↔ ∀ t, t < f.length → tail f t ≤ m ∧ loop f t ∣ m := by
  unfold idemB
  rw [ok_of (good_pw hf m), Bool.true_and, decide_eq_true_eq, behind_pw hf, eq_comm, pw_eq_iff hf (by omega), show m + m - m = m by omega]

/-! ### the period -/
theorem per_lcm (xss : List (List Int)) (j : Nat) : per xss (j + 1) = Nat.lcm (per xss j) (gl xss j).length := by
  rw [per, Nat.lcm, Nat.div_mul_right_comm (Nat.gcd_dvd_left _ _)]
theorem per_dvd_iff (xss : List (List Int)) (m : Nat) : ∀ j, per xss j ∣ m ↔ ∀ i, i < j → (gl xss i).length ∣ m
  | 0 => by simp [per]
  | j + 1 => by
    rw [per_lcm, Nat.lcm_dvd_iff, per_dvd_iff xss m j]
    constructor
    · rintro ⟨h1, h2⟩ i hi
      rcases Nat.lt_succ_iff_lt_or_eq.1 hi with h | rfl
      · exact h1 i h
      · exact h2
    · intro h
      exact ⟨fun i hi => h i (by omega), h j (by omega)⟩
theorem loopsK_has (f : List Int) : ∀ k t, t < k → loopOf f t = t → ∃ j, j < (loopsK f k).length ∧ gl (loopsK f k) j = ints (way f t)
  | 0, t, h, _ => by omega
  | k + 1, t, h, ht => by
    rw [loopsK]
    by_cases e : t = k
    · subst e
      rw [if_pos ht]
      exact ⟨(loopsK f t).length, by simp, gl_app_end _ _⟩
    · obtain ⟨j, h1, h2⟩ := loopsK_has f k t (by omega) ht
      split
      · exact ⟨j, by rw [List.length_append]; omega, by rw [gl_app_lt h1]; exact h2⟩
      · exact ⟨j, h1, h2⟩
theorem rho_loop {f : List Int} (hf : Good f) {t : Nat} (ht : t < f.length) (h : tail f t = 0) : rho f t = loop f t := by
  rw [rho_eq hf ht, h, Nat.zero_add]
theorem loopOf_loop {f : List Int} (hf : Good f) {t : Nat} (ht : t < f.length) : loop f (loopOf f t) = loop f t := by
  obtain ⟨a, _, e⟩ := loopOf_mem hf ht
  rw [← e, loop_it_eq hf ht]
/-- the period, as a number -/
def perN (f : List Int) : Nat := per (loopsLL f) (loopsLL f).length
theorem loopsLL_yes {f : List Int} (hf : Good f) : loopsLL f = loopsK f f.length := if_pos (ok_of hf)
theorem perN_dvd {f : List Int} (hf : Good f) (m : Nat) : perN f ∣ m ↔ ∀ t, t < f.length → loop f t ∣ m := by
  rw [perN, per_dvd_iff, loopsLL_yes hf]
  constructor
  · intro h t ht
    obtain ⟨j, hj, e⟩ := loopsK_has f f.length (loopOf f t) (loopOf_lt hf ht) (loopOf_idem hf ht)
    have h1 := h j hj
    rwa [e, way_len, rho_loop hf (loopOf_lt hf ht) (loopOf_tail hf ht), loopOf_loop hf ht] at h1
  · intro h j hj
    obtain ⟨t, ht, e, hw⟩ := loopsK_mem f _ j hj
    rw [hw, way_len, rho_loop hf ht (loopOf_self hf ht e)]
    exact h t ht
theorem perN_bd {f : List Int} (hf : Good f) : 1 ≤ perN f ∧ perN f ≤ 823543 := by
  have h7 := hf.1.2
  obtain ⟨h1, h2⟩ := per_bound (loopsLL f) (fun j hj => ⟨(loops_long hf hj).1, by have := (loops_long hf hj).2; omega⟩) _ (Nat.le_refl _)
  exact ⟨h1, Nat.le_trans h2 (pow7 _ (loopsLL_len f h7))⟩
theorem periodV_yes {f : List Int} (hf : Good f) : periodV f = (perN f : Int) := if_pos (ok_of hf)

/-! ### the index -/
def idxN (f : List Int) : Nat := (indexV f).toNat
theorem idxN_spec {f : List Int} (hf : Good f) : indexV f = (idxN f : Int) ∧ 1 ≤ idxN f ∧ idxN f ≤ 7 ∧ (∀ m : Nat, 1 ≤ m → (idxN f ≤ m ↔ ∀ t, t < f.length → tail f t ≤ m)) ∧ (1 < idxN f → ∃ t, t < f.length ∧ tail f t = idxN f) ∧ idxN f < max f.length 2 := by
  have h1 := hf.1
  have hh : highV f = hiT f f.length := if_pos (ok_of hf)
  have hi : indexV f = if highV f ≤ 1 then 1 else highV f := if_pos (ok_of hf)
  obtain ⟨j, hj, e⟩ := hiT_mem f f.length (by omega)
  have hhi := hiT_high hf (Nat.le_refl f.length)
  have key : indexV f = (idxN f : Int) ∧ 1 ≤ idxN f ∧ ((idxN f : Int) = 1 ∧ highV f ≤ 1 ∨ (idxN f : Int) = highV f ∧ 1 < highV f) := by
    unfold idxN
    rw [hi]
    split <;> omega
  obtain ⟨k1, k2, k3⟩ := key
  refine ⟨k1, k2, by omega, fun m hm => ⟨fun h t ht => ?_, fun h => ?_⟩, fun h => ⟨j, hj, by omega⟩, by omega⟩
  · have := hiT_le f f.length t ht
    omega
  · have := h j hj
    omega

/-- A POWER IS IDEMPOTENT EXACTLY IF ITS NUMBER IS NO LESS THAN THE INDEX AND A MULTIPLE OF THE PERIOD -/
theorem idem_iff {f : List Int} (hf : Good f) {m : Nat} (hm : 0 < m) : idemB (pw f m) = true ↔ idxN f ≤ m ∧ perN f ∣ m := by
  rw [idem_pw hf hm, (idxN_spec hf).2.2.2.1 m hm, perN_dvd hf]
  exact ⟨fun h => ⟨fun t ht => (h t ht).1, fun t ht => (h t ht).2⟩, fun h t ht => ⟨h.1 t ht, h.2 t ht⟩⟩
theorem pw_eq_iff' {f : List Int} (hf : Good f) {a b : Nat} (ha : 1 ≤ a) (hab : a < b) : pw f a = pw f b ↔ idxN f ≤ a ∧ perN f ∣ b - a := by
  rw [pw_eq_iff hf hab, (idxN_spec hf).2.2.2.1 a ha, perN_dvd hf]
  exact ⟨fun h => ⟨fun t ht => (h t ht).1, fun t ht => (h t ht).2⟩, fun h t ht => ⟨h.1 t ht, h.2 t ht⟩⟩
/-- the least multiple of the period from the index on -/
def setN (f : List Int) : Nat := (idxN f + perN f - 1) / perN f * perN f
theorem setN_spec {f : List Int} (hf : Good f) : idxN f ≤ setN f ∧ setN f < idxN f + perN f ∧ perN f ∣ setN f ∧ 1 ≤ setN f ∧ setN f ≤ 823549 ∧ ∀ m, idxN f ≤ m → perN f ∣ m → setN f ≤ m := by
  have hp := perN_bd hf
  have hi := idxN_spec hf
  have d := Nat.div_add_mod (idxN f + perN f - 1) (perN f)
  have m := Nat.mod_lt (idxN f + perN f - 1) hp.1
  have e : setN f = perN f * ((idxN f + perN f - 1) / perN f) := by rw [setN, Nat.mul_comm]
  have h1 : idxN f ≤ setN f := by rw [e]; omega
  have h2 : setN f < idxN f + perN f := by rw [e]; omega
  refine ⟨h1, h2, ⟨_, e⟩, by omega, by omega, fun k hk ⟨q, hq⟩ => ?_⟩
  rw [hq, e]
  refine Nat.mul_le_mul_left _ ?_
  apply Nat.le_of_not_lt
  intro hlt
  have h3 : perN f * (q + 1) ≤ perN f * ((idxN f + perN f - 1) / perN f) := Nat.mul_le_mul_left _ hlt
  rw [Nat.mul_succ] at h3
  rw [e] at h2
  omega

/-! ### maps that turn round -/
theorem turned_high {f : List Int} (hf : Good f) : turnedB f = true ↔ highV f ≤ 0 := by
  have hh : highV f = hiT f f.length := if_pos (ok_of hf)
  have h1 := hf.1
  rw [turnedB_iff, hh]
  obtain ⟨j, hj, e⟩ := hiT_mem f f.length (by omega)
  constructor
  · rintro ⟨_, hi⟩
    have := (inj_iff_tails hf).1 hi j hj
    omega
  · intro h
    refine ⟨hf, (inj_iff_tails hf).2 fun t ht => ?_⟩
    have := hiT_le f f.length t ht
    omega
def orderV (f : List Int) : Int := if turnedB f = true then periodV f else -1

end Go.Proofs.Ytkbfcaaihellfaa

/- Plain law: loops counted; the period is at most 12; turns that go with a turn. No program in sight. -/
namespace Go.Proofs.Ytkbfcaaihellfaa
set_option linter.unusedVariables false

def sumZ (xs : List Int) : Nat → Int
  | 0 => 0
  | k + 1 => sumZ xs k + nth xs k
def wsumZ (xs : List Int) : Nat → Int
  | 0 => 0
  | k + 1 => wsumZ xs k + ((k : Int) + 1) * nth xs k
theorem sumZ_set (xs : List Int) (i : Nat) (hi : i < xs.length) (z : Int) : ∀ n, sumZ (xs.set i z) n = sumZ xs n + if i < n then z - nth xs i else 0
  | 0 => by simp [sumZ]
  | n + 1 => by
    rw [sumZ, sumZ, sumZ_set xs i hi z n, nth_set]
    by_cases h1 : i < n
    · rw [if_pos h1, if_neg (fun h => by omega), if_pos (by omega)]; omega
    · by_cases h2 : i = n
      · subst h2; rw [if_neg h1, if_pos ⟨rfl, hi⟩, if_pos (by omega)]; omega
      · rw [if_neg h1, if_neg (fun h => h2 h.1), if_neg (by omega)]; omega
theorem wsumZ_set (xs : List Int) (i : Nat) (hi : i < xs.length) (z : Int) : ∀ n, wsumZ (xs.set i z) n = wsumZ xs n + if i < n then ((i : Int) + 1) * (z - nth xs i) else 0
  | 0 => by simp [wsumZ]
  | n + 1 => by
    rw [wsumZ, wsumZ, wsumZ_set xs i hi z n, nth_set]
    by_cases h1 : i < n
    · rw [if_pos h1, if_neg (fun h => by omega), if_pos (by omega)]; omega
    · by_cases h2 : i = n
      · subst h2
        rw [if_neg h1, if_pos ⟨rfl, hi⟩, if_pos (by omega), Int.mul_sub]; omega
      · rw [if_neg h1, if_neg (fun h => h2 h.1), if_neg (by omega)]; omega
theorem sumZ_rep (n k : Nat) : sumZ (List.replicate n 0) k = 0 := by
  induction k with
  | zero => rfl
  | succ k ih =>
    have : nth (List.replicate n (0 : Int)) k = 0 := by by_cases h : k < n <;> simp [nth, h]
    rw [sumZ, ih, this]; rfl
theorem wsumZ_rep (n k : Nat) : wsumZ (List.replicate n 0) k = 0 := by
  induction k with
  | zero => rfl
  | succ k ih =>
    have : nth (List.replicate n (0 : Int)) k = 0 := by by_cases h : k < n <;> simp [nth, h]
    rw [wsumZ, ih, this]; simp
/-- how many things the first j rows have together -/
def lsum (xss : List (List Int)) : Nat → Nat
  | 0 => 0
  | j + 1 => lsum xss j + (gl xss j).length
theorem kk_sums (n : Nat) (xss : List (List Int)) (h : ∀ j, j < xss.length → 1 ≤ (gl xss j).length ∧ (gl xss j).length ≤ n) : ∀ j, j ≤ xss.length → sumZ (kk n xss j) n = j ∧ wsumZ (kk n xss j) n = lsum xss j
  | 0, _ => by rw [kk, sumZ_rep, wsumZ_rep]; exact ⟨rfl, rfl⟩
  | j + 1, hj => by
    obtain ⟨h1, h2⟩ := kk_sums n xss h j (by omega)
    obtain ⟨h3, h4⟩ := h j (by omega)
    have hl : (gl xss j).length - 1 < (kk n xss j).length := by rw [kk_len]; omega
    rw [kk, sumZ_set _ _ hl, wsumZ_set _ _ hl, h1, h2, if_pos (by omega), if_pos (by omega), lsum]
    refine ⟨by omega, ?_⟩
    rw [show nth (kk n xss j) ((gl xss j).length - 1) + 1 - nth (kk n xss j) ((gl xss j).length - 1) = 1 by omega]
    omega
theorem lsum_app (xss : List (List Int)) (z : List Int) : ∀ j, j ≤ xss.length → lsum (xss ++ [z]) j = lsum xss j
  | 0, _ => rfl
  | j + 1, h => by rw [lsum, lsum, lsum_app xss z j (by omega), gl_app_lt (by omega)]
theorem lsum_snoc (xss : List (List Int)) (z : List Int) : lsum (xss ++ [z]) (xss ++ [z]).length = lsum xss xss.length + z.length := by
  rw [List.length_append, show xss.length + [z].length = xss.length + 1 from rfl, lsum, lsum_app _ _ _ (Nat.le_refl _), gl_app_end]

/-! ### things on loops -/
theorem same_len {l r : List Nat} (hl : l.Nodup) (hr : r.Nodup) (h : ∀ x, x ∈ l ↔ x ∈ r) : l.length = r.length := ((List.perm_ext_iff_of_nodup hl hr).2 h).length_eq
/-- how many things are on loops whose least thing is less than k -/
def onK (f : List Int) (k : Nat) : List Nat := (List.range f.length).filter fun x => tail f x == 0 && decide (loopOf f x < k)
def onN (f : List Int) : Nat := ((List.range f.length).filter fun x => tail f x == 0).length
theorem onK_succ (f : List Int) (k : Nat) : (onK f (k + 1)).length = (onK f k).length + ((List.range f.length).filter fun x => tail f x == 0 && decide (loopOf f x = k)).length := by
  unfold onK
  generalize List.range f.length = l
  induction l with
  | nil => rfl
  | cons a l ih =>
    simp only [List.filter_cons]
    rcases Nat.lt_trichotomy (loopOf f a) k with h | h | h
    · rw [decide_eq_true (show loopOf f a < k + 1 by omega), decide_eq_true h, decide_eq_false (show ¬ loopOf f a = k by omega)]
      cases tail f a == 0 <;> simp [ih] <;> omega
    · rw [decide_eq_true (show loopOf f a < k + 1 by omega), decide_eq_false (show ¬ loopOf f a < k by omega), decide_eq_true h]
      cases tail f a == 0 <;> simp [ih] <;> omega
    · rw [decide_eq_false (show ¬ loopOf f a < k + 1 by omega), decide_eq_false (show ¬ loopOf f a < k by omega), decide_eq_false (show ¬ loopOf f a = k by omega)]
      cases tail f a == 0 <;> simp [ih]
theorem mem_way_on {f : List Int} (hf : Good f) {k : Nat} (hk : k < f.length) (e : loopOf f k = k) (x : Nat) : x ∈ way f k ↔ x < f.length ∧ tail f x = 0 ∧ loopOf f x = k := by
  have ht := loopOf_self hf hk e
  constructor
  · intro h
    obtain ⟨j, _, rfl⟩ := mem_walk.1 h
    exact ⟨hf.it_lt hk j, by rw [tail_it_eq hf hk, ht]; omega, by rw [loopOf_it hf hk, e]⟩
  · rintro ⟨hx, h0, he⟩
    obtain ⟨a, _, ha⟩ := loopOf_mem hf hx
    rw [he] at ha
    have hp := loop_pos hf hx
    -- k is on x's way; go on round to x
    have hm := Nat.le_mul_of_pos_right a hp
    have hr : it f (a * loop f x - a) k = x := by
      rw [← ha, ← it_add, show a * loop f x - a + a = 0 + a * loop f x by omega, it_rounds hf hx (by omega)]
      rfl
    rw [show way f k = loopL f k by rw [loopL, ht]; rfl]
    exact (mem_loopL hf hk).2 ⟨_, by omega, hr⟩
theorem onK_eq {f : List Int} (hf : Good f) : ∀ k, k ≤ f.length → (onK f k).length = lsum (loopsK f k) (loopsK f k).length
  | 0, _ => by
    have : onK f 0 = [] := by simp [onK]
    rw [this]; rfl
  | k + 1, hk => by
    rw [onK_succ, onK_eq hf k (by omega), loopsK]
    by_cases e : loopOf f k = k
    · rw [if_pos e, lsum_snoc, ints_len]
      congr 1
      refine same_len (List.Nodup.sublist List.filter_sublist List.nodup_range) (rho_nodup hf (by omega)) fun x => ?_
      have := mem_way_on hf (show k < f.length by omega) e x
      rw [this]
      simp
    · rw [if_neg e]
      have : ((List.range f.length).filter fun x => tail f x == 0 && decide (loopOf f x = k)) = [] := by
        rw [List.filter_eq_nil_iff]
        intro x hx
        have hx := List.mem_range.1 hx
        simp only [Bool.and_eq_true, decide_eq_true_eq, not_and]
        intro _ he
        exact e (by rw [← he]; exact loopOf_idem hf hx)
      rw [this]; rfl
theorem on_lsum {f : List Int} (hf : Good f) : onN f = lsum (loopsLL f) (loopsLL f).length := by
  rw [loopsLL_yes hf, ← onK_eq hf _ (Nat.le_refl _), onN, onK]
  congr 1
  refine List.filter_congr fun x hx => ?_
  rw [decide_eq_true (loopOf_lt hf (List.mem_range.1 hx)), Bool.and_true]
theorem onN_le (f : List Int) : onN f ≤ f.length := by
  unfold onN
  exact Nat.le_trans (List.length_filter_le _ _) (by simp)
theorem kinds_sums {f : List Int} (hf : Good f) : (kindsL f).length = f.length ∧ sumZ (kindsL f) f.length = (loopsLL f).length ∧ wsumZ (kindsL f) f.length = onN f := by
  have e : kindsL f = kk f.length (loopsLL f) (loopsLL f).length := if_pos (ok_of hf)
  obtain ⟨h1, h2⟩ := kk_sums f.length (loopsLL f) (fun j hj => loops_long hf hj) _ (Nat.le_refl _)
  rw [e, on_lsum hf]
  exact ⟨kk_len _ _ _, h1, h2⟩
theorem kinds_range {f : List Int} (hf : Good f) (p : Nat) : 0 ≤ nth (kindsL f) p ∧ nth (kindsL f) p ≤ 7 := by
  have e : kindsL f = kk f.length (loopsLL f) (loopsLL f).length := if_pos (ok_of hf)
  have := kk_range f.length (loopsLL f) (loopsLL f).length p
  have := loopsLL_len f hf.1.2
  rw [e]; omega

/-! ### the period is at most 12 -/
def gP (s : Nat) : Nat := [1, 1, 2, 3, 4, 6, 6, 12].getD s 0
theorem gP_all : ∀ s, s < 8 → ∀ p, p < 13 → ∀ l, l < 8 → (!(decide (1 ≤ p) && decide (p ≤ gP s) && decide (1 ≤ l) && decide (s + l ≤ 7)) || decide (Nat.lcm p l ≤ gP (s + l))) = true := by decide +kernel
theorem gP_step (s : Nat) (hs : s ≤ 7) (p : Nat) (hp : p ≤ 12) (h1 : 1 ≤ p) (h2 : p ≤ gP s) (l : Nat) (hl : l ≤ 7) (h3 : 1 ≤ l) (h4 : s + l ≤ 7) : Nat.lcm p l ≤ gP (s + l) := by
  have := gP_all s (by omega) p (by omega) l (by omega)
  simpa [h1, h2, h3, h4] using this
theorem gP_le : ∀ s, s ≤ 7 → gP s ≤ 12 := by decide +kernel
theorem lsum_mono (xss : List (List Int)) (i : Nat) : ∀ j, i ≤ j → lsum xss i ≤ lsum xss j
  | 0, h => by
    obtain rfl : i = 0 := by omega
    exact Nat.le_refl _
  | j + 1, h => by
    by_cases e : i = j + 1
    · subst e; exact Nat.le_refl _
    · have := lsum_mono xss i j (by omega)
      rw [lsum]; omega
theorem per_gP (xss : List (List Int)) (h : ∀ j, j < xss.length → 1 ≤ (gl xss j).length) (h7 : lsum xss xss.length ≤ 7) : ∀ j, j ≤ xss.length → 1 ≤ per xss j ∧ per xss j ≤ gP (lsum xss j)
  | 0, _ => ⟨Nat.le_refl 1, show 1 ≤ gP 0 by decide⟩
  | j + 1, hj => by
    obtain ⟨h1, h2⟩ := per_gP xss h h7 j (by omega)
    have h3 := h j (by omega)
    have h4 := lsum_mono xss (j + 1) _ hj
    have h5 : lsum xss (j + 1) = lsum xss j + (gl xss j).length := rfl
    have h6 := gP_le (lsum xss j) (by omega)
    rw [per_lcm, h5]
    exact ⟨Nat.lcm_pos h1 h3, gP_step _ (by omega) _ (by omega) h1 h2 _ (by omega) h3 (by omega)⟩
theorem perN_12 {f : List Int} (hf : Good f) : perN f ≤ 12 := by
  have h7 := hf.1.2
  have h1 := on_lsum hf
  have h2 := onN_le f
  have h3 := (per_gP (loopsLL f) (fun j hj => (loops_long hf hj).1) (by omega) _ (Nat.le_refl _)).2
  have h4 := gP_le (lsum (loopsLL f) (loopsLL f).length) (by omega)
  unfold perN
  omega

/-! ### turns that go with a turn -/
/-- the numbers from 1 up to c, each times l, multiplied together -/
def facL (l : Int) : Nat → Int
  | 0 => 1
  | c + 1 => facL l c * (((c : Int) + 1) * l)
def twI (xs : List Int) : Nat → Int
  | 0 => 1
  | k + 1 => twI xs k * facL ((k : Int) + 1) (nth xs k).toNat
def turnsV (f : List Int) : Int := if turnedB f = true then twI (kindsL f) f.length else -1
theorem sumZ_nonneg {xs : List Int} (h : ∀ p, 0 ≤ nth xs p) : ∀ k, 0 ≤ sumZ xs k
  | 0 => by simp [sumZ]
  | k + 1 => by have := sumZ_nonneg h k; have := h k; rw [sumZ]; omega
theorem wsumZ_ge {xs : List Int} (h : ∀ p, 0 ≤ nth xs p) (i : Nat) : ∀ k, i < k → ((i : Int) + 1) * nth xs i ≤ wsumZ xs k ∧ 0 ≤ wsumZ xs k
  | 0, hi => by omega
  | k + 1, hi => by
    have key : 0 ≤ wsumZ xs k := by
      have : ∀ k, 0 ≤ wsumZ xs k := by
        intro k
        induction k with
        | zero => simp [wsumZ]
        | succ k ih => rw [wsumZ]; have := Int.mul_nonneg (show 0 ≤ (k : Int) + 1 by omega) (h k); omega
      exact this k
    have hk := Int.mul_nonneg (show 0 ≤ (k : Int) + 1 by omega) (h k)
    rw [wsumZ]
    by_cases e : i = k
    · subst e; omega
    · have := (wsumZ_ge h i k (by omega)).1
      omega
theorem facL_bd (l : Int) (hl : 0 ≤ l) (C : Nat) (hC : (C : Int) * l ≤ 7) (c : Nat) (hc : c ≤ C) : 0 ≤ facL l c ∧ facL l c ≤ ((7 ^ c : Nat) : Int) := by
  induction c with
  | zero => simp [facL]
  | succ c ih =>
    obtain ⟨h1, h2⟩ := ih (by omega)
    have h3 : ((c : Int) + 1) * l ≤ 7 := Int.le_trans (Int.mul_le_mul_of_nonneg_right (by omega) hl) hC
    have h4 : 0 ≤ ((c : Int) + 1) * l := Int.mul_nonneg (by omega) hl
    rw [facL, Nat.pow_succ, Int.natCast_mul]
    refine ⟨Int.mul_nonneg h1 h4, Int.mul_le_mul h2 h3 h4 (by omega)⟩
theorem pow7z {a b : Nat} (h : a ≤ b) : ((7 ^ a : Nat) : Int) ≤ ((7 ^ b : Nat) : Int) := Int.ofNat_le.2 (Nat.pow_le_pow_right (by omega) h)
/-- all that is reckoned on the way stays small -/
theorem tw_bd {xs : List Int} (h : ∀ p, 0 ≤ nth xs p) {n : Nat} (hs : sumZ xs n ≤ 7) (hw : wsumZ xs n ≤ 7) : ∀ k, k ≤ n → 0 ≤ twI xs k ∧ twI xs k ≤ ((7 ^ (sumZ xs k).toNat : Nat) : Int)
  | 0, _ => by simp [twI, sumZ]
  | k + 1, hk => by
    obtain ⟨h1, h2⟩ := tw_bd h hs hw k (by omega)
    have hk0 := h k
    have h3 := (wsumZ_ge h k n (by omega)).1
    have hc : ((nth xs k).toNat : Int) = nth xs k := by omega
    obtain ⟨h4, h5⟩ := facL_bd ((k : Int) + 1) (by omega) (nth xs k).toNat (by rw [hc, Int.mul_comm]; omega) _ (Nat.le_refl _)
    have h6 := sumZ_nonneg h k
    rw [twI]
    refine ⟨Int.mul_nonneg h1 h4, ?_⟩
    rw [sumZ, show (sumZ xs k + nth xs k).toNat = (sumZ xs k).toNat + (nth xs k).toNat by omega, Nat.pow_add, Int.natCast_mul]
    exact Int.mul_le_mul h2 h5 h4 (by omega)
theorem sumZ_mono {xs : List Int} (h : ∀ p, 0 ≤ nth xs p) (i : Nat) : ∀ j, i ≤ j → sumZ xs i ≤ sumZ xs j
  | 0, hi => by
    obtain rfl : i = 0 := by omega
    exact Int.le_refl _
  | j + 1, hi => by
    by_cases e : i = j + 1
    · subst e; exact Int.le_refl _
    · have := sumZ_mono h i j (by omega)
      have := h j
      rw [sumZ]; omega
theorem tw_mid {xs : List Int} (h : ∀ p, 0 ≤ nth xs p) {n : Nat} (hs : sumZ xs n ≤ 7) (hw : wsumZ xs n ≤ 7) {k : Nat} (hk : k < n) {c : Nat} (hc : c ≤ (nth xs k).toNat) :
    0 ≤ twI xs k * facL ((k : Int) + 1) c ∧ twI xs k * facL ((k : Int) + 1) c ≤ 823543 := by
  obtain ⟨h1, h2⟩ := tw_bd h hs hw k (by omega)
  have hk0 := h k
  have h3 := (wsumZ_ge h k n hk).1
  have e : ((nth xs k).toNat : Int) = nth xs k := by omega
  obtain ⟨h4, h5⟩ := facL_bd ((k : Int) + 1) (by omega) (nth xs k).toNat (by rw [e, Int.mul_comm]; omega) c hc
  refine ⟨Int.mul_nonneg h1 h4, ?_⟩
  have h6 := sumZ_nonneg h k
  have h7 := sumZ_mono h (k + 1) n (by omega)
  rw [sumZ] at h7
  have h8 : twI xs k * facL ((k : Int) + 1) c ≤ ((7 ^ (sumZ xs k).toNat : Nat) : Int) * ((7 ^ c : Nat) : Int) := Int.mul_le_mul h2 h5 h4 (by omega)
  rw [← Int.natCast_mul, ← Nat.pow_add] at h8
  exact Int.le_trans h8 (pow7z (b := 7) (by omega))

/-! ### roots of turns -/
/-- of each even length there is an even number of loops -/
def evenB (xs : List Int) : Bool := (List.range xs.length).all fun k => !(k % 2 == 1) || nth xs k % 2 == 0
def rootOkB (f : List Int) : Bool := turnedB f && evenB (kindsL f)
theorem evenB_no {xs : List Int} {k : Nat} (hk : k < xs.length) (h1 : k % 2 = 1) (h2 : nth xs k % 2 ≠ 0) : evenB xs = false := by
  rw [evenB, List.all_eq_false]
  refine ⟨k, List.mem_range.2 hk, ?_⟩
  simp [h1, h2]
theorem evenB_yes {xs : List Int} (h : ∀ k, k < xs.length → k % 2 = 1 → nth xs k % 2 = 0) : evenB xs = true := by
  rw [evenB, List.all_eq_true]
  intro k hk
  have hk := List.mem_range.1 hk
  by_cases h1 : k % 2 = 1
  · simp [h k hk h1]
  · simp [h1]

end Go.Proofs.Ytkbfcaaihellfaa

/- Contracts of chapter 4: powers. -/
namespace Go.Proofs.Ytkbfcaaihellfaa
open Go.RowKit
set_option linter.unusedVariables false



end Go.Proofs.Ytkbfcaaihellfaa

/- Contracts of chapter 6: whether a turn has a root. -/
namespace Go.Proofs.Ytkbfcaaihellfaa
open Go.RowKit
set_option linter.unusedVariables false

theorem rootOk_yes {f : List Int} (h : turnedB f = true) : rootOkB f = evenB (kindsL f) := by rw [rootOkB, h, Bool.true_and]
theorem rootOk_no {f : List Int} (h : turnedB f = false) : rootOkB f = false := by rw [rootOkB, h, Bool.false_and]

set_option maxHeartbeats 400000 in
theorem iTurnRootOk_c (A : Option Addr) (c : Nat) (f : List Int) (w : World) (hR : RdA w A f) (hn : f.length ≤ 1048577) :
    Calls Try.prog 29 #[.slice A f.length c] w fun e w' => e = .returned (.bool (rootOkB f)) ∧ Below w.heap.size w w' := by
  have c1 := iTurnedOf_c A c f w hR hn
  by_cases ht : turnedB f = true
  · have HT := hid (rootOk_yes ht)
    have hf := (turnedB_iff.1 ht).1
    have h7 := hf.1.2
    have HK := hid (fun p => kinds_range hf p)
    have hkl := (kinds_sums hf).1
    rw [ht] at c1
    have C2 := hid (fun W (hb : Below w.heap.size w W) => iLoopKinds_c A c f W (hR.below hb) hn)
    clear ht hR hf
    generalize kindsL f = K at *
    have hk7 : K.length ≤ 7 := by omega
    clear hkl
    go_enter Try.func29, Try.ntmps29
    go_wp2_with fail
    refine c1.mono ?_; rintro e w2 ⟨A2, c2, rfl, -, b2, -⟩
    have k2 := hid (C2.out w2 b2)
    clear C2 c1
    go_wp2_with fail
    refine k2.out.mono ?_; rintro e w3 ⟨A3, c3, rfl, o3, b3⟩
    have b3' := b2.trans (b3.mono b2.size)
    have HR := hid o3.rd
    clear k2 b2 b3 o3
    go_wp2_with fail
    go_loop [18] (fun i => ∃ k : Nat, k ≤ K.length ∧ i = .int .i64 k ∧ Hid (∀ j, j < k → j % 2 = 1 → nth K j % 2 = 0)) (fun i => K.length - (intOf i).toNat)
    case atStart => exact ⟨0, Nat.zero_le _, rfl, hid (fun j hj => by omega)⟩
    case round =>
      obtain ⟨k, hk, rfl, hall⟩ := hrel
      by_cases hlt : k < K.length
      · obtain ⟨ad, rfl, hc⟩ := HR.out k hlt
        obtain ⟨hx0, hx7⟩ := HK.out k
        have HX := hid (show nth K k = nth K k from rfl)
        by_cases hodd : k % 2 = 1
        · have q1 : (((k : Int) + 1) % 2 == 0) = true := by simp; omega
          by_cases hev : nth K k % 2 = 0
          · have q2 : (nth K k % 2 == 0) = true := by simpa using hev
            have q3 : (nth K k % 2 != 0) = false := by simp [hev]
            have HN := hid (show ∀ j, j < k + 1 → j % 2 = 1 → nth K j % 2 = 0 from fun j hj h => by
              rcases Nat.lt_succ_iff_lt_or_eq.1 hj with h' | rfl
              · exact hall.out j h' h
              · exact hev)
            clear hev hall hodd
            generalize nth K k = X at *
            go_wp2_with fail
            go_round
            case rel => exact ⟨k + 1, by omega, by go_num, HN⟩
            case measure => simp [intOf]; omega
          · have q2 : (nth K k % 2 == 0) = false := by simpa using hev
            have q3 : (nth K k % 2 != 0) = true := by simp [hev]
            have HN := hid (evenB_no hlt hodd hev)
            clear hev hall hodd
            generalize nth K k = X at *
            go_wp2_with fail
            go_ret
            exact ⟨ret_bool (by rw [HT.out, HN.out]), b3'⟩
        · have q1 : (((k : Int) + 1) % 2 == 0) = false := by simp; omega
          have HN := hid (show ∀ j, j < k + 1 → j % 2 = 1 → nth K j % 2 = 0 from fun j hj h => by
              rcases Nat.lt_succ_iff_lt_or_eq.1 hj with h' | rfl
              · exact hall.out j h' h
              · exact absurd h hodd)
          clear hall hodd
          generalize nth K k = X at *
          go_wp2_with fail
          go_round
          case rel => exact ⟨k + 1, by omega, by go_num, HN⟩
          case measure => simp [intOf]; omega
      · obtain rfl : k = K.length := by omega
        have HN := hid (evenB_yes hall.out)
        clear hall
        go_wp2_with fail
        go_ret
        exact ⟨ret_bool (by rw [HT.out, HN.out]), b3'⟩
  · have ht' : turnedB f = false := by simpa using ht
    have HT := hid (rootOk_no ht')
    rw [ht'] at c1
    clear ht ht' hR
    go_enter Try.func29, Try.ntmps29
    go_wp2_with fail
    refine c1.mono ?_; rintro e w2 ⟨A2, c2, rfl, -, b2, -⟩
    clear c1
    go_wp2_with fail
    go_ret
    exact ⟨ret_bool HT.out.symm, b2⟩

set_option maxHeartbeats 400000 in
theorem sTurnRootOk_c (A : Option Addr) (c : Nat) (f : List Int) (w : World) (hR : RdA w A f) (hn : f.length ≤ 1048577) :
    Calls Try.prog 30 #[.slice A f.length c] w fun e w' => e = .returned (.bool (rootOkB f)) ∧ Below w.heap.size w w' := by
  have c1 := sTurnedOf_c A c f w hR hn
  have C2 := hid (fun W (hb : Below w.heap.size w W) => sLoopKinds_c A c f W (hR.below hb) hn)
  have HK := hid (show ∀ p, 0 ≤ nth (kindsL f) p ∧ nth (kindsL f) p ≤ 7 from fun p => by
    by_cases hf : mapOkB f = true
    · exact kinds_range (good_of hf) p
    · rw [show kindsL f = [] from if_neg hf]; simp [nth])
  have HT := hid (show rootOkB f = (turnedB f && evenB (kindsL f)) from rfl)
  have hk7 : (kindsL f).length ≤ 7 := by
    by_cases hf : mapOkB f = true
    · rw [(kinds_sums (good_of hf)).1]; exact (good_of hf).1.2
    · rw [show kindsL f = [] from if_neg hf]; simp
  clear hR
  generalize kindsL f = K at *
  generalize turnedB f = tb at *
  go_enter Try.func30, Try.ntmps30
  go_wp2_with fail
  refine c1.mono ?_; rintro e w2 ⟨A2, c2, rfl, -, b2⟩
  have k2 := hid (C2.out w2 b2)
  clear C2 c1
  go_wp2_with fail
  refine k2.out.mono ?_; rintro e w3 ⟨A3, c3, rfl, o3, b3⟩
  have b3' := b2.trans (b3.mono b2.size)
  have HR := hid o3.rd
  clear k2 b2 b3 o3
  go_wp2_with fail
  go_loop [6] (fun i => ∃ k : Nat, 2 * k + 1 ≤ K.length + 1 ∧ i = .int .i64 (2 * (k : Int) + 1) ∧ Hid (∀ j, j < 2 * k + 1 → j % 2 = 1 → nth K j % 2 = 0)) (fun i => K.length + 1 - (intOf i).toNat)
  case atStart => exact ⟨0, by omega, rfl, hid (fun j hj => by omega)⟩
  case round =>
    obtain ⟨k, hk, rfl, hall⟩ := hrel
    by_cases hlt : 2 * k + 1 < K.length
    · obtain ⟨ad, rfl, hc⟩ := HR.out (2 * k + 1) hlt
      obtain ⟨hx0, hx7⟩ := HK.out (2 * k + 1)
      have e1 : 2 * (k : Int) + 1 = ((2 * k + 1 : Nat) : Int) := by omega
      have HE1 := hid e1
      rw [e1]
      have hodd : (2 * k + 1) % 2 = 1 := by omega
      have hk2 : 2 * k + 1 ≤ 7 := by omega
      have HQ := hid (show (((2 * k + 1 : Nat) : Int) + 2) = 2 * ((k + 1 : Nat) : Int) + 1 by omega)
      by_cases hev : nth K (2 * k + 1) % 2 = 0
      · have q2 : (nth K (2 * k + 1) % 2 == 1) = false := by simp [hev]
        have HN := hid (show ∀ j, j < 2 * (k + 1) + 1 → j % 2 = 1 → nth K j % 2 = 0 from fun j hj h => by
          by_cases h' : j = 2 * k + 1
          · subst h'; exact hev
          · exact hall.out j (by omega) h)
        have HM := hid (show 2 * (k + 1) + 1 ≤ K.length + 1 by omega)
        have HM2 := hid (show K.length + 1 - (2 * (k + 1) + 1) < K.length + 1 - (2 * k + 1) by omega)
        clear hev hall hodd e1
        generalize nth K (2 * k + 1) = X at *
        generalize hP : 2 * k + 1 = P at *
        have KP := hid hP
        clear hP
        go_wp2_with fail
        go_round
        case rel => exact ⟨k + 1, HM.out, by rw [HQ.out], HN⟩
        case measure => simp [intOf]; have := KP.out; omega
      · have q2 : (nth K (2 * k + 1) % 2 == 1) = true := by simp; omega
        have HN := hid (evenB_no hlt hodd hev)
        clear hev hall hodd e1
        generalize nth K (2 * k + 1) = X at *
        generalize hP : 2 * k + 1 = P at *
        clear hP
        go_wp2_with fail
        go_ret
        exact ⟨ret_bool (by rw [HT.out, HN.out, Bool.and_false]), b3'⟩
    · have hP : ∀ j, j < K.length → j % 2 = 1 → nth K j % 2 = 0 := fun j hj h => hall.out j (by omega) h
      have HN := hid (evenB_yes hP)
      have e1 : 2 * (k : Int) + 1 = ((2 * k + 1 : Nat) : Int) := by omega
      rw [e1]
      clear hP hall e1
      generalize 2 * k + 1 = P at *
      go_wp2_with fail
      go_ret
      exact ⟨ret_bool (by rw [HT.out, HN.out, Bool.and_true]), b3'⟩

end Go.Proofs.Ytkbfcaaihellfaa
