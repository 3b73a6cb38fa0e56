/- Contracts: ChosenOf, SettledMaps. -/
import Derived.Test.YtenmgiocbdabdaaA3
import Derived.Deep.RegionHeld3
namespace Go.Proofs.Ytenmgiocbdabdaa
open Go.RowKit
set_option linter.unusedVariables false

/-- how many sets of c of t things -/
def chN : Nat → Nat → Int
  | _, 0 => 1
  | 0, _ + 1 => 0
  | t + 1, c + 1 => chN t (c + 1) + chN t c

theorem chN_bd : ∀ t : Nat, t ≤ 7 → ∀ c : Nat, c ≤ 7 → 0 ≤ chN t c ∧ chN t c ≤ 35 := by decide +kernel
theorem chN_z : ∀ t : Nat, t ≤ 7 → ∀ c : Nat, c ≤ 7 → t < c → chN t c = 0 := by decide +kernel
theorem chN_bd' (t c : Int) (h1 : t ≤ 7) (h2 : c ≤ 7) : 0 ≤ chN t.toNat c.toNat ∧ chN t.toNat c.toNat ≤ 35 := chN_bd _ (by omega) _ (by omega)
theorem chN_rec (t c : Int) (h : 0 < c) (h2 : c ≤ t) : chN t.toNat c.toNat = chN (t - 1).toNat c.toNat + chN (t - 1).toNat (c - 1).toNat := by
  obtain ⟨a, rfl⟩ : ∃ a : Nat, t = a + 1 := ⟨(t - 1).toNat, by omega⟩
  obtain ⟨b, rfl⟩ : ∃ b : Nat, c = b + 1 := ⟨(c - 1).toNat, by omega⟩
  rw [show ((a : Int) + 1).toNat = a + 1 by omega, show ((b : Int) + 1).toNat = b + 1 by omega, chN]
  congr 2 <;> omega

theorem sChosenOf_in (k : Nat) : ∀ (t c : Int) (w : World), t ≤ k → 0 ≤ t → t ≤ 7 → 0 ≤ c → c ≤ 7 →
    Calls Try.prog 134 #[.int .i64 t, .int .i64 c] w fun e w' => e = .returned (.int .i64 (chN t.toNat c.toNat)) ∧ w = w' := by
  have small : ∀ (t c : Int) (w : World), 0 ≤ t → t ≤ 7 → 0 ≤ c → c ≤ 7 → (c = 0 ∨ t < c) →
    Calls Try.prog 134 #[.int .i64 t, .int .i64 c] w fun e w' => e = .returned (.int .i64 (chN t.toNat c.toNat)) ∧ w = w' := by
    intro t c w h2 h3 h4 h5 h
    by_cases hl : c = 0
    · subst hl
      have H := hid (show chN t.toNat (0 : Int).toNat = 1 by cases t.toNat <;> rfl)
      clear h
      go_enter Try.func134, Try.ntmps134
      go_wp2_with (go_at_call 125; refine (l1In_t _ _ _ _ (by omega)).mono ?_; rintro e w' ⟨rfl, rfl⟩)
      go_ret
      exact ⟨ret_int H.out.symm, rfl⟩
    · have h7 : t < c := by omega
      have H := hid (chN_z t.toNat (by omega) c.toNat (by omega) (by omega))
      have q1 : (c == 0) = false := by simp; omega
      clear h
      go_enter Try.func134, Try.ntmps134
      go_wp2_with (go_at_call 125; refine (l1In_t _ _ _ _ (by omega)).mono ?_; rintro e w' ⟨rfl, rfl⟩)
      go_ret
      exact ⟨ret_int H.out.symm, rfl⟩
  induction k with
  | zero =>
    intro t c w h1 h2 h3 h4 h5
    exact small t c w h2 h3 h4 h5 (by omega)
  | succ k ih =>
    intro t c w h1 h2 h3 h4 h5
    by_cases h : c = 0 ∨ t < c
    · exact small t c w h2 h3 h4 h5 h
    · have b1 := chN_bd' (t - 1) (c - 1) (by omega) (by omega)
      have b2 := chN_bd' (t - 1) c (by omega) (by omega)
      have HR := hid (chN_rec t c (by omega) (by omega))
      have h6 : 0 < c := by omega
      have h7 : c ≤ t := by omega
      have ih1 := ih (t - 1) (c - 1) w (by omega) (by omega) (by omega) (by omega) (by omega)
      have ih2 := ih (t - 1) c w (by omega) (by omega) (by omega) (by omega) (by omega)
      generalize chN (t - 1).toNat (c - 1).toNat = p1 at *
      generalize chN (t - 1).toNat c.toNat = p2 at *
      have q1 : (c == 0) = false := by simp; omega
      have q2 : decide (t < c) = false := by simp; omega
      clear h ih
      go_enter Try.func134, Try.ntmps134
      go_wp2_with (go_at_call 125; refine (l1In_t _ _ _ _ (by omega)).mono ?_; rintro e w' ⟨rfl, rfl⟩)
      refine ih2.mono ?_; rintro e w' ⟨rfl, rfl⟩
      go_wp2_with fail
      refine ih1.mono ?_; rintro e w' ⟨rfl, rfl⟩
      go_wp2_with fail
      go_ret
      exact ⟨ret_int HR.out.symm, rfl⟩

def chosenV (t l : Int) : Int := if (0 ≤ t ∧ t ≤ 7) ∧ (0 ≤ l ∧ l ≤ 7) then chN t.toNat l.toNat else -1
theorem sChosenOf_c (t l : Int) (w : World) :
    Calls Try.prog 134 #[.int .i64 t, .int .i64 l] w fun e w' => e = .returned (.int .i64 (chosenV t l)) ∧ w = w' := by
  by_cases ht : 0 ≤ t ∧ t ≤ 7
  · by_cases hl : 0 ≤ l ∧ l ≤ 7
    · have e : chosenV t l = chN t.toNat l.toNat := by unfold chosenV; rw [if_pos ⟨ht, hl⟩]
      rw [e]
      exact sChosenOf_in 7 t l w (by omega) ht.1 ht.2 hl.1 hl.2
    · have H := hid (show chosenV t l = -1 by unfold chosenV; rw [if_neg (fun h => hl h.2)])
      go_enter Try.func134, Try.ntmps134
      go_wp2_with fail
      refine (l1In_t _ _ _ _ ht).mono ?_; rintro e w' ⟨rfl, rfl⟩
      go_wp2_with fail
      refine (l1In_f _ _ _ _ hl).mono ?_; rintro e w' ⟨rfl, rfl⟩
      go_wp2_with fail
      go_ret
      exact ⟨ret_int H.out.symm, rfl⟩
  · have H := hid (show chosenV t l = -1 by unfold chosenV; rw [if_neg (fun h => ht h.1)])
    go_enter Try.func134, Try.ntmps134
    go_wp2_with fail
    refine (l1In_f _ _ _ _ ht).mono ?_; rintro e w' ⟨rfl, rfl⟩
    go_wp2_with fail
    go_ret
    exact ⟨ret_int H.out.symm, rfl⟩

/-! ### binomials -/
/-- the table as it stands before row i's place j is written -/
def binT (i j : Nat) : List Int := (List.range 64).map fun p => if (p / 8 < i ∧ p % 8 ≤ p / 8) ∨ (p / 8 = i ∧ p % 8 < j) then chN (p / 8) (p % 8) else 0
def binA (i j : Nat) : Array Value := ((binT i j).map (Value.int .i64)).toArray

theorem binT_len (i j : Nat) : (binT i j).length = 64 := by simp [binT]
theorem binA_size (i j : Nat) : (binA i j).size = 64 := by simp [binA, binT]
theorem binA_one (i j : Nat) : (binA i j).all (·.oneCell') = true := by
  rw [Array.all_eq_true_iff_forall_mem]
  intro x hx
  simp only [binA, List.mem_toArray, List.mem_map] at hx
  obtain ⟨n, _, rfl⟩ := hx
  rfl
theorem binT_get (i j p : Nat) (hp : p < 64) : (binA i j)[p]? = some (.int .i64 ((binT i j)[p]?.getD 0)) := by
  have h : p < (binT i j).length := by rw [binT_len]; exact hp
  simp only [binA, List.getElem?_toArray, List.getElem?_map, List.getElem?_eq_getElem h, Option.map_some, Option.getD_some]
theorem binA_set (i j p : Nat) (x : Int) (i' j' : Nat) (h : (binT i j).set p x = binT i' j') : (binA i j).setIfInBounds p (.int .i64 x) = binA i' j' := by
  simp only [binA, ← h, List.setIfInBounds_toArray, List.map_set]
theorem binT_one : ∀ i : Nat, i < 8 → (binT i 0).set (i * 8) 1 = binT i 1 := by decide +kernel
theorem binT_step : ∀ i : Nat, i < 8 → ∀ j : Nat, j ≤ i → 1 ≤ j → (binT i j).set (i * 8 + j) ((binT i j)[(i - 1) * 8 + j]?.getD 0 + (binT i j)[(i - 1) * 8 + (j - 1)]?.getD 0) = binT i (j + 1) := by decide +kernel
theorem binT_next : ∀ i : Nat, i < 8 → binT i (i + 1) = binT (i + 1) 0 := by decide +kernel
theorem binT_bd : ∀ i : Nat, i < 8 → ∀ j : Nat, j ≤ i → ∀ p : Nat, p < 64 → 0 ≤ (binT i j)[p]?.getD 0 ∧ (binT i j)[p]?.getD 0 ≤ 100 := by decide +kernel

def Blk (w : World) (g : Nat) (t : TypeId) (cs : Array Value) : Prop := w.heap[g]? = some (.cells cs t (0, 0))
theorem Blk.cell {w : World} {g : Nat} {t : TypeId} {cs : Array Value} (h : Blk w g t cs) (i : Nat) : w.cell? ⟨g, i, none⟩ = cs[i]? := cell_of_row w g i cs t (0, 0) h
theorem Blk.frozen {w : World} {g : Nat} {t : TypeId} {cs : Array Value} (h : Blk w g t cs) (i : Nat) : w.frozen? ⟨g, i, none⟩ = false := by
  unfold Blk at h
  simp [World.frozen?, h]
theorem Blk.set_ {w : World} {g : Nat} {t : TypeId} {cs : Array Value} (h : Blk w g t cs) (i : Nat) (u : Value) : Blk (w.setCell ⟨g, i, none⟩ u) g t (cs.setIfInBounds i u) := by
  unfold Blk at h ⊢
  simp [World.setCell, Array.getElem?_modify, h]
theorem Blk.far {w : World} {g : Nat} {t : TypeId} {cs : Array Value} (h : Blk w g t cs) {p : Addr} (hp : g ≠ p.block) (u : Value) : Blk (w.setCell p u) g t cs := (Below.heap_setCell w p u g hp).trans h
theorem Blk.drew {w : World} {g : Nat} {t : TypeId} {cs : Array Value} (h : Blk w g t cs) : Blk w.drew g t cs := h

set_option maxHeartbeats 800000 in
set_option maxRecDepth 100000 in
theorem binomials_c (w : World) :
    Calls Try.prog 167 #[] w fun e w' => e = .returned (.agg (binA 8 0)) ∧ Below w.heap.size w w' := by
  go_enter Try.func167, Try.ntmps167
  go_wp2
  go_loopw [4] (fun c wr => ∃ i : Nat, i ≤ 8 ∧ c = .int .i64 i ∧ Blk wr w.heap.size 91 (binA 0 0) ∧ Blk wr (w.heap.size + 1) 91 (binA i 0) ∧ Below w.heap.size w wr) (fun c _ => 8 - (intOf c).toNat)
  case atStart =>
    refine ⟨0, by omega, rfl, ?_, ?_, ((Below.refl _ _).alloc (Nat.le_refl _) _).alloc (by simp) _⟩
    · show (World.alloc _ _).heap[_]? = _
      rw [heap_alloc2_old]
      rfl
    · show (World.alloc _ _).heap[_]? = _
      rw [heap_alloc2_new]
      rfl
  case round =>
    obtain ⟨i, hi, rfl, hb0, hb1, hbel⟩ := hrel
    by_cases hlt : i < 8
    · have hc := (hb1.cell (i * 8)).trans (binT_get i 0 (i * 8) (by omega))
      have hf := hb1.frozen (i * 8)
      have hb1' := hb1.set_ (i * 8) (.int .i64 1)
      rw [binA_set _ _ _ _ _ _ (binT_one i hlt)] at hb1'
      have hb0' := hb0.far (p := ⟨w.heap.size + 1, i * 8, none⟩) (by simp) (.int .i64 1)
      have hbel' := hbel.setCell (p := ⟨w.heap.size + 1, i * 8, none⟩) (by simp) (.int .i64 1)
      have HB := hid (And.intro hb0' (And.intro hb1' hbel'))
      clear hb1 hb0 hbel hb1' hb0' hbel'
      go_wp2
      generalize wr.setCell { block := w.heap.size + 1, off := i * 8, spot := none } (Value.int IntKind.i64 1) = wo at HB ⊢
      obtain ⟨hb0, hb1, hbel⟩ := HB.out
      clear HB hc hf
      go_loopw [3] (fun c wq => ∃ j : Nat, 1 ≤ j ∧ j ≤ i + 1 ∧ c = .int .i64 j ∧ Blk wq w.heap.size 91 (binA 0 0) ∧ Blk wq (w.heap.size + 1) 91 (binA i j) ∧ Below w.heap.size w wq) (fun c _ => i + 1 - (intOf c).toNat)
      case atStart => exact ⟨1, by omega, by omega, rfl, hb0, hb1, hbel⟩
      case round =>
        clear hb0 hb1 hbel
        obtain ⟨j, hj1, hj2, rfl, hb0, hb1, hbel⟩ := hrel
        by_cases hlj : j ≤ i
        · have hc1 := (hb1.cell ((i - 1) * 8 + j)).trans (binT_get i j ((i - 1) * 8 + j) (by omega))
          have hc2 := (hb1.cell ((i - 1) * 8 + (j - 1))).trans (binT_get i j ((i - 1) * 8 + (j - 1)) (by omega))
          have hc3 := (hb1.cell (i * 8 + j)).trans (binT_get i j (i * 8 + j) (by omega))
          have hf := hb1.frozen (i * 8 + j)
          have x1 := binT_bd i hlt j hlj ((i - 1) * 8 + j) (by omega)
          have x2 := binT_bd i hlt j hlj ((i - 1) * 8 + (j - 1)) (by omega)
          have H1 := hid (binA_set _ _ _ _ _ _ (binT_step i hlt j hlj hj1))
          have H2 := hid hb1
          have H3 := hid hb0
          have H4 := hid hbel
          clear hb1 hb0 hbel
          generalize (binT i j)[(i - 1) * 8 + j]?.getD 0 = y1 at *
          generalize (binT i j)[(i - 1) * 8 + (j - 1)]?.getD 0 = y2 at *
          generalize (binT i j)[i * 8 + j]?.getD 0 = y3 at *
          go_wp2
          go_region
          go_wp2
          go_roundw
          case rel => exact ⟨j + 1, by omega, by omega, by go_num, (H3.out.far (by simp) _).drew, H1.out ▸ (H2.out.set_ _ _).drew, (H4.out.setCell (by simp) _).drew⟩
          case measure => simp [intOf]; omega
        · obtain rfl : j = i + 1 := by omega
          rw [show binA i (i + 1) = binA (i + 1) 0 by rw [binA, binA, binT_next i hlt]] at hb1
          have H2 := hid hb1
          have H3 := hid hb0
          have H4 := hid hbel
          clear hb1 hb0 hbel
          go_wp2
          go_roundw
          case rel => exact ⟨i + 1, by omega, by go_num, H3.out, H2.out, H4.out⟩
          case measure => simp [intOf]; omega
    · obtain rfl : i = 8 := by omega
      have hsz : (Try.prog.info? 91).map (·.size) = some (binA 8 0).size := by rw [binA_size]; kernel_rfl
      have hold : (binA 0 0).size = (binA 8 0).size := by rw [binA_size, binA_size]
      have h1 := binA_one 8 0
      have hend : (wr.setRow w.heap.size (binA 8 0)).heap[w.heap.size]? = some (.cells (binA 8 0) 91 (0, 0)) := setRow_heap wr w.heap.size (binA 0 0) (binA 8 0) 91 (0, 0) hb0
      have hbe : Below w.heap.size w (wr.setRow w.heap.size (binA 8 0)) := hbel.trans ⟨rfl, rfl, rfl, by simp [World.setRow], fun k hk => setRow_other wr w.heap.size k _ (by omega)⟩
      have HB := hid (And.intro hend hbe)
      clear hend hbe hbel
      have HL := hid hb1
      have HS := hid hb0
      clear hb0 hb1
      have K1 := hid hsz
      have K2 := hid hold
      have K3 := hid h1
      clear hsz hold h1
      go_wp2_with (first
        | (refine wpList_load_row rfl 91 _ rfl (w.heap.size + 1) rfl 91 (binA 8 0) (0, 0) _ HL.out Try.underlying91 rfl K1.out ?_)
        | (refine wpList_store_row rfl 91 _ _ rfl w.heap.size (binA 8 0) rfl rfl 91 (binA 0 0) HS.out K1.out K2.out K3.out ?_))
      refine bodyPost_ret (v := .agg (binA 8 0)) (results_cell_row (by rfl) _ _ w.heap.size 91 (binA 8 0) (0, 0) _ (by rfl) HB.out.1 Try.underlying91 rfl K1.out) rfl ⟨rfl, HB.out.2⟩

theorem binT_val : ∀ t : Nat, t ≤ 7 → ∀ c : Nat, c ≤ 7 → (binT 8 0)[t * 8 + c]?.getD 0 = chN t c := by decide +kernel

def zero64 : Array Value := (List.replicate 64 (Value.int .i64 0)).toArray
theorem setRow_cell (w w1 : World) (hb : Below w.heap.size w w1) (t c : Nat) (ht : t ≤ 7) (hc : c ≤ 7) :
    ∀ W2, World.setRow (w1.alloc (.cells #[.int .i64 0, .int .i64 0, .int .i64 0, .int .i64 0, .int .i64 0, .int .i64 0, .int .i64 0, .int .i64 0, .int .i64 0, .int .i64 0, .int .i64 0, .int .i64 0, .int .i64 0, .int .i64 0, .int .i64 0, .int .i64 0, .int .i64 0, .int .i64 0, .int .i64 0, .int .i64 0, .int .i64 0, .int .i64 0, .int .i64 0, .int .i64 0, .int .i64 0, .int .i64 0, .int .i64 0, .int .i64 0, .int .i64 0, .int .i64 0, .int .i64 0, .int .i64 0, .int .i64 0, .int .i64 0, .int .i64 0, .int .i64 0, .int .i64 0, .int .i64 0, .int .i64 0, .int .i64 0, .int .i64 0, .int .i64 0, .int .i64 0, .int .i64 0, .int .i64 0, .int .i64 0, .int .i64 0, .int .i64 0, .int .i64 0, .int .i64 0, .int .i64 0, .int .i64 0, .int .i64 0, .int .i64 0, .int .i64 0, .int .i64 0, .int .i64 0, .int .i64 0, .int .i64 0, .int .i64 0, .int .i64 0, .int .i64 0, .int .i64 0, .int .i64 0] 91)) w1.heap.size (binA 8 0) = W2 → W2.cell? ⟨w1.heap.size, t * 8 + c, none⟩ = some (.int .i64 (chN t c)) ∧ Below w.heap.size w W2 := by
  rintro W2 rfl
  have h := setRow_heap (w1.alloc (.cells zero64 91)) w1.heap.size zero64 (binA 8 0) 91 (0, 0) (heap_alloc_new _ _)
  have h2 := cell_of_row _ w1.heap.size (t * 8 + c) (binA 8 0) 91 (0, 0) h
  rw [binT_get 8 0 (t * 8 + c) (by omega), binT_val t ht c hc] at h2
  refine ⟨h2, (hb.alloc hb.size _).trans ⟨rfl, rfl, rfl, by simp [World.setRow], fun k hk => setRow_other _ w1.heap.size k _ (by have := hb.size; omega)⟩⟩

set_option maxHeartbeats 800000 in
set_option maxRecDepth 100000 in
theorem iChosenOf_in (t c : Nat) (w : World) (ht : t ≤ 7) (hc : c ≤ 7) :
    Calls Try.prog 133 #[.int .i64 t, .int .i64 c] w fun e w' => e = .returned (.int .i64 (chN t c)) ∧ Below w.heap.size w w' := by
  have K1 := hid (show (Try.prog.info? 91).map (·.size) = some (binA 8 0).size by rw [binA_size]; kernel_rfl)
  have K3 := hid (binA_one 8 0)
  go_enter Try.func133, Try.ntmps133
  go_wp2_with fail
  refine (within_t _ _ _ _ (by omega)).mono ?_; rintro e w' ⟨rfl, rfl⟩
  go_wp2_with fail
  refine (within_t _ _ _ _ (by omega)).mono ?_; rintro e w' ⟨rfl, rfl⟩
  go_wp2_with fail
  refine (binomials_c _).mono ?_; rintro e w1 ⟨rfl, hb⟩
  go_wp2_with (refine wpList_store_row rfl 91 _ _ rfl w1.heap.size (binA 8 0) rfl rfl 91 _ (heap_alloc_new _ _) K1.out (binA_size 8 0).symm K3.out ?_; obtain ⟨hcell, hb2⟩ := setRow_cell w w1 hb t c ht hc _ rfl; generalize World.setRow _ w1.heap.size (binA 8 0) = W2 at hcell hb2 ⊢)
  go_ret
  exact ⟨rfl, hb2⟩

theorem iChosenOf_c (t l : Int) (w : World) :
    Calls Try.prog 133 #[.int .i64 t, .int .i64 l] w fun e w' => e = .returned (.int .i64 (chosenV t l)) ∧ Below w.heap.size w w' := by
  by_cases ht : 0 ≤ t ∧ t ≤ 7
  · by_cases hl : 0 ≤ l ∧ l ≤ 7
    · have e : chosenV t l = chN t.toNat l.toNat := by unfold chosenV; rw [if_pos ⟨ht, hl⟩]
      rw [e]
      have := iChosenOf_in t.toNat l.toNat w (by omega) (by omega)
      rwa [show ((t.toNat : Nat) : Int) = t by omega, show ((l.toNat : Nat) : Int) = l by omega] at this
    · have H := hid (show chosenV t l = -1 by unfold chosenV; rw [if_neg (fun h => hl h.2)])
      go_enter Try.func133, Try.ntmps133
      go_wp2_with fail
      refine (within_t _ _ _ _ ht).mono ?_; rintro e w' ⟨rfl, rfl⟩
      go_wp2_with fail
      refine (within_f _ _ _ _ hl).mono ?_; rintro e w' ⟨rfl, rfl⟩
      go_wp2_with fail
      go_ret
      exact ⟨ret_int H.out.symm, Below.refl _ _⟩
  · have H := hid (show chosenV t l = -1 by unfold chosenV; rw [if_neg (fun h => ht h.1)])
    go_enter Try.func133, Try.ntmps133
    go_wp2_with fail
    refine (within_f _ _ _ _ ht).mono ?_; rintro e w' ⟨rfl, rfl⟩
    go_wp2_with fail
    go_ret
    exact ⟨ret_int H.out.symm, Below.refl _ _⟩

/-! ### SettledMaps -/
def setAcc (t : Int) : Nat → Int
  | 0 => 0
  | k + 1 => setAcc t k + chosenV t ((k : Int) + 1) * powI ((k : Int) + 1) (t - ((k : Int) + 1)).toNat
def settledV (t : Int) : Int := if 1 ≤ t ∧ t ≤ 7 then setAcc t t.toNat else -1
theorem setAcc_bd : ∀ t : Nat, t ≤ 7 → ∀ k : Nat, k ≤ t → 0 ≤ setAcc t k ∧ setAcc t k ≤ 10000000 := by decide +kernel
theorem setAcc_st : ∀ t : Nat, t ≤ 7 → ∀ k : Nat, k < t → 0 ≤ chosenV t ((k : Int) + 1) * powI ((k : Int) + 1) ((t : Int) - ((k : Int) + 1)).toNat ∧ chosenV t ((k : Int) + 1) * powI ((k : Int) + 1) ((t : Int) - ((k : Int) + 1)).toNat ≤ 10000000 := by decide +kernel
theorem setAcc_all (t : Int) (k : Nat) (h : 1 ≤ t ∧ t ≤ 7) (hk : k < t) : (0 ≤ setAcc t k ∧ setAcc t k ≤ 10000000) ∧ 0 ≤ chosenV t ((k : Int) + 1) * powI ((k : Int) + 1) (t - ((k : Int) + 1)).toNat ∧ chosenV t ((k : Int) + 1) * powI ((k : Int) + 1) (t - ((k : Int) + 1)).toNat ≤ 10000000 := by
  have a := setAcc_bd t.toNat (by omega) k (by omega)
  have b := setAcc_st t.toNat (by omega) k (by omega)
  rw [show ((t.toNat : Nat) : Int) = t by omega] at a b
  exact ⟨a, b⟩

theorem keepS {b : Nat} {t : Int} {w0 W W1 : World} (h : W.cell? ⟨b, 0, none⟩ = some (.int .i64 t)) (hB : Below w0.heap.size w0 W) (hb : b < w0.heap.size) (h1 : Below W.heap.size W W1) :
    W1.cell? ⟨b, 0, none⟩ = some (.int .i64 t) ∧ Below w0.heap.size w0 W1 :=
  ⟨(h1.cell (p := ⟨b, 0, none⟩) (Nat.lt_of_lt_of_le hb hB.size)).trans h, hB.trans (h1.mono hB.size)⟩

theorem settled1_c (s t : Int) (k : Nat) (b : Nat) (w : World) (hc : w.cell? ⟨b, 0, none⟩ = some (.int .i64 t)) (hb : b < w.heap.size) (h : 1 ≤ t ∧ t ≤ 7) (hk : k < t) (hs : s = setAcc t k) :
    Calls Try.prog 132 #[.int .i64 s, .int .i64 ((k : Int) + 1), .pointer (some ⟨b, 0, none⟩)] w fun e w' => e = .returned (.int .i64 (setAcc t (k + 1))) ∧ Below w.heap.size w w' := by
  subst hs
  obtain ⟨⟨a1, a2⟩, b1, b2⟩ := setAcc_all t k h hk
  have H := hid (show setAcc t (k + 1) = setAcc t k + chosenV t ((k : Int) + 1) * powI ((k : Int) + 1) (t - ((k : Int) + 1)).toNat from rfl)
  have c := fun W => iChosenOf_c t ((k : Int) + 1) W
  have c2 := fun W => powered_c ((k : Int) + 1) (t - ((k : Int) + 1)) W (by omega) (by omega) (by omega) (by omega)
  generalize chosenV t ((k : Int) + 1) = V at *
  generalize powI ((k : Int) + 1) (t - ((k : Int) + 1)).toNat = Q at *
  generalize setAcc t k = A at *
  have C := hid c
  have C2 := hid c2
  clear c c2
  go_enter Try.func132, Try.ntmps132
  go_wp2_with fail
  have e1 : IntKind.i64.wrap (t - ((k : Int) + 1)) = t - ((k : Int) + 1) := IntWalk.i64_in _ (by omega)
  have e2 : IntKind.i64.wrap (V * Q) = V * Q := IntWalk.i64_in _ (by omega)
  have e3 : IntKind.i64.wrap (A + V * Q) = A + V * Q := IntWalk.i64_in _ (by omega)
  go_region_held3 (fun w' => w'.cell? ⟨b, 0, none⟩ = some (.int .i64 t) ∧ Below w.heap.size w w')
    (first | exact ⟨hc, (Below.refl _ _).drew⟩ | (go_split_ands; exact keepS (by assumption) (by assumption) hb hbN))
    ((first | (go_at_call 133; refine (C.out _).mono ?_; rintro e w1 ⟨rfl, hbN⟩) | (go_at_call 129; refine (C2.out _).mono ?_; rintro e w1 ⟨rfl, hbN⟩)))
  go_wp2
  go_ret
  exact ⟨ret_int H.out.symm, And.right (by assumption)⟩

theorem iSettledMaps_c (t : Int) (w : World) :
    Calls Try.prog 61 #[.int .i64 t] w fun e w' => e = .returned (.int .i64 (settledV t)) ∧ Below w.heap.size w w' := by
  have hc0 := cell_new1 w (.int .i64 t) 3
  by_cases h : 1 ≤ t ∧ t ≤ 7
  · have H := hid (show settledV t = setAcc t t.toNat by unfold settledV; rw [if_pos h])
    have hmf : ∀ (fn : Fn) (first cap : Array Value) (w : World), (Instr.makeFunc fn first cap).run Try.prog w = .ok (.func fn first cap) w := fun _ _ _ _ => rfl
    have hf := folded_SettledMaps t.toNat (setAcc t) w.heap.size (w.heap.size + 1) (w.alloc (.cells #[.int .i64 t] 3)) (by omega) (fun k W hk hB => by
      have hc := (hB.cell (p := ⟨w.heap.size, 0, none⟩) (by simp)).trans hc0
      have hz : w.heap.size + 1 ≤ W.heap.size := by have := hB.size; simpa using this
      exact (settled1_c (setAcc t k) t k w.heap.size W hc (by omega) h (by omega) rfl).mono fun e w' ⟨h1, h2⟩ => ⟨h1, h2.mono hz⟩)
    rw [show ((t.toNat : Nat) : Int) = t by omega] at hf
    have HF := hid hf
    clear hf
    go_enter Try.func61, Try.ntmps61
    go_wp2_with fail
    refine (within_t _ _ _ _ h).mono ?_; rintro e w' ⟨rfl, rfl⟩
    go_wp2_with fail
    refine HF.out.mono ?_
    rintro e w' ⟨rfl, hb'⟩
    go_wp2_with fail
    go_ret
    exact ⟨ret_int H.out.symm, ((Below.refl _ _).alloc (Nat.le_refl _) _).trans (hb'.mono (by omega))⟩
  · have H := hid (show settledV t = -1 by unfold settledV; rw [if_neg h])
    go_enter Try.func61, Try.ntmps61
    go_wp2_with fail
    refine (within_f _ _ _ _ h).mono ?_; rintro e w' ⟨rfl, rfl⟩
    go_wp2_with fail
    go_ret
    exact ⟨ret_int H.out.symm, (Below.refl _ _).alloc (Nat.le_refl _) _⟩

theorem sSettledMaps_c (t : Int) (w : World) :
    Calls Try.prog 62 #[.int .i64 t] w fun e w' => e = .returned (.int .i64 (settledV t)) ∧ w = w' := by
  by_cases h : 1 ≤ t ∧ t ≤ 7
  · have H := hid (show settledV t = setAcc t t.toNat by unfold settledV; rw [if_pos h])
    obtain ⟨T, rfl⟩ := Int.eq_ofNat_of_zero_le (show 0 ≤ t by omega)
    rw [Int.toNat_natCast] at *
    go_enter Try.func62, Try.ntmps62
    go_wp2_with fail
    refine (l1In_t _ _ _ _ h).mono ?_; rintro e w' ⟨rfl, rfl⟩
    go_wp2_with fail
    go_loop [3, 4] (fun n i => ∃ k : Nat, k ≤ T ∧ i = .int .i64 ((k : Int) + 1) ∧ n = .int .i64 (setAcc T k)) (fun _ i => T + 1 - (intOf i).toNat)
    case atStart => exact ⟨0, Nat.zero_le _, rfl, rfl⟩
    case round =>
      obtain ⟨k, hk, rfl, rfl⟩ := hrel
      by_cases hlt : k < T
      · obtain ⟨⟨a1, a2⟩, b1, b2⟩ := setAcc_all (T : Int) k h (by omega)
        have H' := hid (show setAcc T (k + 1) = setAcc T k + chosenV T ((k : Int) + 1) * powI ((k : Int) + 1) ((T : Int) - ((k : Int) + 1)).toNat from rfl)
        have c := sChosenOf_c T ((k : Int) + 1) w
        have c2 := l7Power_c ((k : Int) + 1) ((T : Int) - ((k : Int) + 1)) w (by omega) (by omega) (by omega) (by omega)
        generalize chosenV T ((k : Int) + 1) = V at *
        generalize powI ((k : Int) + 1) ((T : Int) - ((k : Int) + 1)).toNat = Q at *
        generalize setAcc T k = A at *
        go_wp2_with fail
        refine c.mono ?_; rintro e w1 ⟨rfl, rfl⟩
        go_wp2_with fail
        refine c2.mono ?_; rintro e w1 ⟨rfl, rfl⟩
        go_wp2_with fail
        go_round
        case rel => exact ⟨k + 1, by omega, by go_num, by rw [H'.out]⟩
        case measure => simp [intOf]; omega
      · obtain rfl : k = T := by omega
        go_wp2_with fail
        go_ret
        exact ⟨ret_int H.out.symm, rfl⟩
  · have H := hid (show settledV t = -1 by unfold settledV; rw [if_neg h])
    go_enter Try.func62, Try.ntmps62
    go_wp2_with fail
    refine (l1In_f _ _ _ _ h).mono ?_; rintro e w' ⟨rfl, rfl⟩
    go_wp2_with fail
    go_ret
    exact ⟨ret_int H.out.symm, rfl⟩

end Go.Proofs.Ytenmgiocbdabdaa
