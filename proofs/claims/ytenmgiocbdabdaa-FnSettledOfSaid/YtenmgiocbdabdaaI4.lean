/- Contracts of chapter 1: the image. -/
import Derived.Test.YtenmgiocbdabdaaI3
namespace Go.Proofs.Ytenmgiocbdabdaa
open Go.RowKit Go.Shelf
set_option linter.unusedVariables false
attribute [local go_sem] Oper.semAt_some

/-- the things among the first k to which some thing is led -/
def imN (f : List Int) (k : Nat) : List Nat := (List.range k).filter fun x => decide ((x : Int) ∈ f)
def imageL (f : List Int) : List Int := if mapOkB f = true then ints (imN f f.length) else []
theorem imN_yes {f : List Int} {k : Nat} (h : (k : Int) ∈ f) : imN f (k + 1) = imN f k ++ [k] := by
  rw [imN, List.range_succ, List.filter_append, show List.filter (fun (x : Nat) => decide ((x : Int) ∈ f)) [k] = [k] by simp [h]]; rfl
theorem imN_no {f : List Int} {k : Nat} (h : ¬ (k : Int) ∈ f) : imN f (k + 1) = imN f k := by
  rw [imN, List.range_succ, List.filter_append, show List.filter (fun (x : Nat) => decide ((x : Int) ∈ f)) [k] = [] by simp [h], List.append_nil]; rfl
theorem imN_len (f : List Int) (k : Nat) : (imN f k).length ≤ k := by unfold imN; exact Nat.le_trans (List.length_filter_le _ _) (by simp)

theorem indexS_t (A : Option Addr) (c : Nat) (xs : List Int) (x : Int) (w : World) (hR : RdA w A xs) (hn : xs.length ≤ 1048577) (hx : x ∈ xs) :
    Calls Try.prog 178 #[.slice A xs.length c, .int .i64 x] w fun e w' => e = .returned (.int .i64 (xs.idxOf x)) ∧ w = w' := by
  have hlt := List.idxOf_lt_length_of_mem hx
  have hne : ∀ k, k < xs.idxOf x → nth xs k ≠ x := fun k hk => idxOf_ne x xs k hk
  have hat : nth xs (xs.idxOf x) = x := by rw [nth_lt hlt]; exact List.getElem_idxOf hlt
  have HN := hid hne
  have HA := hid hat
  clear hne hat hx
  generalize xs.idxOf x = m at *
  go_enter Try.func178, Try.ntmps178
  go_wp2_with fail
  go_loop [8] (fun i => ∃ k : Nat, k ≤ m ∧ i = .int .i64 k) (fun i => xs.length - (intOf i).toNat)
  case atStart => exact ⟨0, Nat.zero_le _, rfl⟩
  case round =>
    obtain ⟨k, hk, rfl⟩ := hrel
    obtain ⟨ad, rfl, hc⟩ := hR k (by omega)
    clear hR
    by_cases hkm : k < m
    · have hq : (x == nth xs k) = false := by have := HN.out k hkm; simpa using Ne.symm this
      generalize nth xs k = y at *
      go_wp2_with fail
      go_round
      case rel => exact ⟨k + 1, by omega, by go_num⟩
      case measure => simp [intOf]; omega
    · obtain rfl : k = m := by omega
      rw [HA.out] at hc
      go_wp2_with fail
      go_ret
      exact ⟨rfl, rfl⟩
theorem indexS_f (A : Option Addr) (c : Nat) (xs : List Int) (x : Int) (w : World) (hR : RdA w A xs) (hn : xs.length ≤ 1048577) (hx : ¬ x ∈ xs) :
    Calls Try.prog 178 #[.slice A xs.length c, .int .i64 x] w fun e w' => e = .returned (.int .i64 (-1)) ∧ w = w' := by
  have HN := hid (show ∀ k, k < xs.length → nth xs k ≠ x from fun k hk e => hx (by rw [← e]; exact nth_mem hk))
  clear hx
  go_enter Try.func178, Try.ntmps178
  go_wp2_with fail
  go_loop [8] (fun i => ∃ k : Nat, k ≤ xs.length ∧ i = .int .i64 k) (fun i => xs.length - (intOf i).toNat)
  case atStart => exact ⟨0, Nat.zero_le _, rfl⟩
  case round =>
    obtain ⟨k, hk, rfl⟩ := hrel
    by_cases hkm : k < xs.length
    · obtain ⟨ad, rfl, hc⟩ := hR k hkm
      clear hR
      have hq : (x == nth xs k) = false := by have := HN.out k hkm; simpa using Ne.symm this
      generalize nth xs k = y at *
      go_wp2_with fail
      go_round
      case rel => exact ⟨k + 1, by omega, by go_num⟩
      case measure => simp [intOf]; omega
    · obtain rfl : k = xs.length := by omega
      clear hR
      go_wp2_with fail
      go_ret
      exact ⟨rfl, rfl⟩
theorem contains_c (A : Option Addr) (c : Nat) (xs : List Int) (x : Int) (w : World) (hR : RdA w A xs) (hn : xs.length ≤ 1048577) :
    Calls Try.prog 170 #[.slice A xs.length c, .int .i64 x] w fun e w' => e = .returned (.bool (decide (x ∈ xs))) ∧ w = w' := by
  by_cases hx : x ∈ xs
  · have k := hid (indexS_t A c xs x w hR hn hx)
    have HX := hid (decide_eq_true hx)
    clear hx hR
    generalize xs.idxOf x = m at *
    go_enter Try.func170, Try.ntmps170
    go_wp2_with fail
    refine k.out.mono ?_; rintro e w' ⟨rfl, rfl⟩
    go_wp2_with fail
    go_ret
    exact ⟨ret_bool (by rw [HX.out]), rfl⟩
  · have k := hid (indexS_f A c xs x w hR hn hx)
    have HX := hid (decide_eq_false hx)
    clear hx hR
    go_enter Try.func170, Try.ntmps170
    go_wp2_with fail
    refine k.out.mono ?_; rintro e w' ⟨rfl, rfl⟩
    go_wp2_with fail
    go_ret
    exact ⟨ret_bool (by rw [HX.out]), rfl⟩

set_option maxRecDepth 100000 in
set_option maxHeartbeats 1000000 in
theorem image1_in (n : Nat) (hn : 1 ≤ n) (l Bs n₀ cap : Nat) (ad : Addr) (f : List Int) (h7 : f.length ≤ 7) (had : ad.block < n₀) (hBn : Bs < n₀) (J Jx : List Nat → World → Prop)
    (hY : ∀ pre x W, J pre W → pre.length < f.length → YieldAt Fence.wide (n - 1) Try.prog l #[.int .i64 (x : Nat)] W fun e W' =>
      (e = .returned (.bool true) ∧ J (pre ++ [x]) W' ∧ Below n₀ W W') ∨ (e = .returned (.bool false) ∧ Jx (pre ++ [x]) W'))
    (W : World) (hBs : W.cell? ⟨Bs, 0, none⟩ = some (.slice (some ad) f.length cap)) (hc : ∀ k, k < f.length → W.cell? (ad.add k) = some (.int .i64 (nth f k))) (h0 : J [] W) :
    CallsIn Fence.wide n Try.prog 169 #[.func (.yield l) #[] #[], .pointer (some ⟨Bs, 0, none⟩)] W fun e W' => (∃ v, e = .returned v) ∧
      ((∃ ys : List Nat, ys = imN f f.length ∧ J ys W') ∨ (∃ pre : List Nat, True ∧ Jx pre W')) := by
  refine callsIn_of_wp Try.func169 rfl trivial ?_ rfl
  simp only [Try.ntmps169, List.size_toArray, List.length_cons, List.length_nil, Nat.reduceAdd, Nat.reduceSub, Array.replicate_succ, Array.replicate_zero, List.push_toArray, List.append_toArray, List.nil_append, List.cons_append]
  gi_wp2
  gi_loopw [6] (fun i wr => ∃ k : Nat, k ≤ f.length ∧ i = .int .i64 k ∧ J (imN f k) wr ∧ Below n₀ W wr)
    (fun i _ => f.length - (intOf i).toNat)
  case atStart => exact ⟨0, Nat.zero_le _, rfl, h0, Below.refl _ _⟩
  case round =>
    obtain ⟨k, hk, rfl, hJs, hnx⟩ := hrel
    by_cases hlt : k < f.length
    · have hcs := (hnx.cell (p := ⟨Bs, 0, none⟩) hBn).trans hBs
      have hrd : RdA wr (some ad) f := fun j hj => ⟨ad, rfl, (hnx.cell (p := ad.add j) (by rw [block_of_add]; exact had)).trans (hc j hj)⟩
      have C := hid (callsIn_wide (n := n - 1).2 (contains_c (some ad) cap f (k : Int) wr hrd (by omega)))
      by_cases hx : (k : Int) ∈ f
      · rw [decide_eq_true hx] at C
        obtain ⟨fn, tmps, assign, body, hy, hR⟩ := hY _ k wr hJs (by have := imN_len f k; omega)
        have HN := hid (imN_yes hx)
        clear hx hrd hc
        gi_wp2_with (refine ⟨trivial, ?_⟩; gi_at_call 170; refine C.out.mono ?_; rintro e w' ⟨rfl, rfl⟩)
        refine hR.mono ?_
        rintro e W3 (⟨rfl, hJ3, hk3⟩ | ⟨rfl, hJx3⟩)
        · gi_wp2
          go_roundw
          case rel => exact ⟨k + 1, by omega, by simp, by rw [HN.out]; exact hJ3, hnx.trans hk3⟩
          case measure => simp [intOf]; omega
        · gi_wp2
          refine bodyPost_ret (results_none rfl _ _ _) rfl ?_
          exact ⟨⟨_, rfl⟩, .inr ⟨_, trivial, hJx3⟩⟩
      · rw [decide_eq_false hx] at C
        have HN := hid (imN_no hx)
        clear hx hrd hc
        gi_wp2_with (refine ⟨trivial, ?_⟩; gi_at_call 170; refine C.out.mono ?_; rintro e w' ⟨rfl, rfl⟩)
        refine ⟨fun _ h => (by cases h), ?_⟩
        gi_wp2
        go_roundw
        case rel => exact ⟨k + 1, by omega, by simp, by rw [HN.out]; exact hJs, hnx⟩
        case measure => simp [intOf]; omega
    · obtain rfl : k = f.length := by omega
      gi_wp2
      go_end0
      exact ⟨⟨_, rfl⟩, .inl ⟨_, rfl, hJs⟩⟩
theorem image_stops (n : Nat) (hn : 1 ≤ n) (Bs n₀ cap : Nat) (ad : Addr) (f : List Int) (h7 : f.length ≤ 7) (had : ad.block < n₀) (hBn : Bs < n₀) (w : World) (hn₀ : n₀ ≤ w.heap.size)
    (hBs : w.cell? ⟨Bs, 0, none⟩ = some (.slice (some ad) f.length cap)) (hc : ∀ k, k < f.length → w.cell? (ad.add k) = some (.int .i64 (nth f k))) :
    SeqStopsK Fence.wide n Try.prog 169 #[.pointer (some ⟨Bs, 0, none⟩)] (fun x : Nat => #[Value.int .i64 (x : Nat)]) (Below n₀) (fun ys => ys = imN f f.length) (fun _ => True) f.length w := fun l J Jx W hW _ _ hY h0 =>
  image1_in n hn l Bs n₀ cap ad f h7 had hBn J Jx hY W ((hW.cell (p := ⟨Bs, 0, none⟩) (by show Bs < _; omega)).trans hBs)
    (fun k hk => (hW.cell (p := ad.add k) (by rw [block_of_add]; omega)).trans (hc k hk)) h0
theorem image_c (A : Option Addr) (n c : Nat) (w : World) :
    Calls Try.prog 138 #[.slice A n c] w fun e w' => e = .returned (.func (.func 169) #[] #[.pointer (some ⟨w.heap.size, 0, none⟩)]) ∧ w' = w.alloc (.cells #[.slice A n c] 65) := by
  have hmf : ∀ (fn : Fn) (first cap : Array Value) (w : World), (Instr.makeFunc fn first cap).run Try.prog w = .ok (.func fn first cap) w := fun _ _ _ _ => rfl
  go_enter Try.func138, Try.ntmps138
  go_wp2_with fail
  go_ret
  exact ⟨rfl, rfl⟩
theorem iImageOf_c (A : Option Addr) (c : Nat) (f : List Int) (w : World) (hR : RdA w A f) (hn : f.length ≤ 1048577) :
    Calls Try.prog 67 #[.slice A f.length c] w (RetI w (imageL f)) := by
  have c1 := iMapOk_c A c f w hR hn
  by_cases hf : mapOkB f = true
  · rw [hf] at c1
    have h7 := (good_of hf).1.2
    have h1 := (good_of hf).1.1
    have HE := hid (show imageL f = ints (imN f f.length) from if_pos hf)
    have c3 := hid (image_c A f.length c w)
    obtain ⟨ad, rfl, hcell⟩ := hR.some_ (show 0 < f.length by omega)
    have hadl : ad.block < w.heap.size := by have := lt_of_cell (hcell 0 (by omega)); rwa [block_of_add] at this
    have b0 : Below w.heap.size w (w.alloc (.cells #[.slice (some ad) f.length c] 65)) := (Below.refl _ w).alloc (Nat.le_refl _) _
    have c4 := hid (collect_c (fun x : Nat => x) 169 #[.pointer (some ⟨w.heap.size, 0, none⟩)] _ _ f.length (by omega) (w.alloc (.cells #[.slice (some ad) f.length c] 65))
      (enters_of Try.func169 (by kernel_rfl) rfl)
      (image_stops 9 (by omega) w.heap.size _ c ad f h7 (by simp; omega) (by simp) _ (Nat.le_refl _) (cell_one1 w _ _)
        (fun k hk => (b0.cell (p := ad.add k) (by rw [block_of_add]; exact hadl)).trans (hcell k hk))))
    have HB := hid b0
    clear hf hR hcell b0
    go_enter Try.func67, Try.ntmps67
    go_wp2_with fail
    refine c1.mono ?_; rintro e w' ⟨rfl, rfl⟩
    go_wp2_with fail
    refine c3.out.mono ?_; rintro e w3 ⟨rfl, rfl⟩
    go_wp2_with fail
    refine c4.out.mono ?_
    rintro e w4 ⟨ys, hS, v, rfl, ho, hb⟩
    rw [hS, List.map_id'', ← HE.out] at ho
    have hb4 := HB.out.trans (hb.mono HB.out.size)
    have ho4 := ho.mono HB.out.size
    go_wp2_with fail
    go_ret
    exact retI_own ho4 hb4
  · have HE := hid (show imageL f = [] from if_neg hf)
    rw [show mapOkB f = false by simpa using hf] at c1
    clear hf hR
    go_enter Try.func67, Try.ntmps67
    go_wp2_with fail
    refine c1.mono ?_; rintro e w' ⟨rfl, rfl⟩
    go_wp2_with fail
    go_ret
    rw [HE.out]
    exact retI_own (Own.nil _ _) (Below.refl _ _)

end Go.Proofs.Ytenmgiocbdabdaa
