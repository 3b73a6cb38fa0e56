/- Contracts of chapter 2: ways, tails, loops. -/
import Derived.Test.YtjipecfoiddkjaaQ2
import Derived.Test.YtjipecfoiddkjaaB1
import Derived.WalkMore
import Derived.ScopeJumps
namespace Go.Proofs.Ytjipecfoiddkjaa
open Go.RowKit
set_option linter.unusedVariables false

def thB (f : List Int) (t : Int) : Bool := mapOkB f && decide (0 ≤ t ∧ t < f.length)
theorem thB_iff {f : List Int} {t : Int} : thB f t = true ↔ Good f ∧ 0 ≤ t ∧ t < f.length := by
  unfold thB
  rw [Bool.and_eq_true, decide_eq_true_eq]
  exact ⟨fun h => ⟨good_of h.1, h.2⟩, fun h => ⟨ok_of h.1, h.2⟩⟩

theorem thingOk_c (A : Option Addr) (c : Nat) (f : List Int) (t : Int) (w : World) (hR : RdA w A f) (hn : f.length ≤ 1048577) :
    Calls Try.prog 30 #[.slice A f.length c, .int .i64 t] w fun e w' => e = .returned (.bool (thB f t)) ∧ w = w' := by
  have c1 := iMapOk_c A c f w hR hn
  clear hR
  by_cases hf : mapOkB f = true
  · rw [hf] at c1
    by_cases ht : 0 ≤ t ∧ t < f.length
    · have HE := hid (show thB f t = true by simp [thB, hf, ht])
      have c2 := has_t A f.length c t w ht
      clear hf ht
      go_enter Try.func30, Try.ntmps30
      go_wp2_with fail
      refine c1.mono ?_; rintro e w' ⟨rfl, rfl⟩
      go_wp2_with fail
      refine c2.mono ?_; rintro e w' ⟨rfl, rfl⟩
      go_wp2_with fail
      go_ret
      exact ⟨ret_bool HE.out.symm, rfl⟩
    · have HE := hid (show thB f t = false by unfold thB; rw [decide_eq_false ht, Bool.and_false])
      have c2 := has_f A f.length c t w ht
      clear hf ht
      go_enter Try.func30, Try.ntmps30
      go_wp2_with fail
      refine c1.mono ?_; rintro e w' ⟨rfl, rfl⟩
      go_wp2_with fail
      refine c2.mono ?_; rintro e w' ⟨rfl, rfl⟩
      go_wp2_with fail
      go_ret
      exact ⟨ret_bool HE.out.symm, rfl⟩
  · have hf' : mapOkB f = false := by simpa using hf
    have HE := hid (show thB f t = false by simp [thB, hf'])
    rw [hf'] at c1
    clear hf hf'
    go_enter Try.func30, Try.ntmps30
    go_wp2_with fail
    refine c1.mono ?_; rintro e w' ⟨rfl, rfl⟩
    go_wp2_with fail
    go_ret
    exact ⟨ret_bool HE.out.symm, rfl⟩

theorem idxOf_ne (x : Int) : ∀ (xs : List Int) (k : Nat), k < xs.idxOf x → nth xs k ≠ x
  | [], k, h => by simp at h
  | a :: l, k, h => by
    rw [List.idxOf_cons] at h
    by_cases ha : (a == x) = true
    · rw [ha] at h; simp at h
    · have ha' : a ≠ x := by simpa using ha
      have : (a == x) = false := by simpa using ha
      rw [this] at h
      cases k with
      | zero => simpa [nth] using ha'
      | succ k =>
        have := idxOf_ne x l k (by simpa using h)
        simpa [nth] using this

/-- slices.Index -/
theorem index_c (A : Option Addr) (c : Nat) (xs : List Int) (x : Int) (w : World) (hR : RdA w A xs) (hn : xs.length ≤ 1048577) (hx : x ∈ xs) :
    Calls Try.prog 32 #[.slice A xs.length c, .int .i64 x] w fun e w' => e = .returned (.int .i64 (xs.idxOf x)) ∧ w = w' := by
  have hlt := List.idxOf_lt_length_of_mem hx
  have hne : ∀ k, k < xs.idxOf x → nth xs k ≠ x := fun k hk => idxOf_ne x xs k hk
  have hat : nth xs (xs.idxOf x) = x := by rw [nth_lt hlt]; exact List.getElem_idxOf hlt
  have HN := hid hne
  have HA := hid hat
  clear hne hat hx
  generalize xs.idxOf x = m at *
  go_enter Try.func32, Try.ntmps32
  go_wp2_with fail
  go_loop [8] (fun i => ∃ k : Nat, k ≤ m ∧ i = .int .i64 k) (fun i => xs.length - (intOf i).toNat)
  case atStart => exact ⟨0, Nat.zero_le _, rfl⟩
  case round =>
    obtain ⟨k, hk, rfl⟩ := hrel
    obtain ⟨ad, rfl, hc⟩ := hR k (by omega)
    clear hR
    by_cases hkm : k < m
    · have hq : (x == nth xs k) = false := by have := HN.out k hkm; simpa using Ne.symm this
      generalize nth xs k = y at *
      go_wp2_with fail
      go_round
      case rel => exact ⟨k + 1, by omega, by go_num⟩
      case measure => simp [intOf]; omega
    · obtain rfl : k = m := by omega
      rw [HA.out] at hc
      go_wp2_with fail
      go_ret
      exact ⟨rfl, rfl⟩

/-! ### walked -/
theorem ints_walk (f : List Int) (t j : Nat) : ints (walk f t (j + 1)) = ints (walk f t j) ++ [(it f j t : Int)] := by rw [walk_succ, ints_append]; rfl
theorem ints_walk_len (f : List Int) (t j : Nat) : (ints (walk f t j)).length = j := by rw [ints_len, walk_len]
def lenOf : Value → Nat
  | .slice _ n _ => n
  | _ => 0
/-- what holds at the label: so many things have been seen -/
def AtLabel (A : Option Addr) (c : Nat) (f : List Int) (t : Nat) (w : World) (a' : Act) (w' : World) : Prop :=
  ∃ (j : Nat) (v : Value) (u9 u10 u11 u12 u13 u14 u15 u16 u17 u18 u19 u20 u21 u22 u23 u24 u25 u26 u27 u28 : Value), j < rho f t ∧
    a' = { tmps := #[.slice A f.length c, .int .i64 t, undef, undef, .slice none 0 0, .int .i64 0, v, .int .i64 (mask (walk f t j)), .int .i64 (it f j t), u9, u10, u11, u12, u13, u14, u15, u16, u17, u18, u19, u20, u21, u22, u23, u24, u25, u26, u27, u28], defers := [] } ∧
    Own w.heap.size w' v (ints (walk f t j)) ∧ Below w.heap.size w w'
def WalkedR (w : World) (f : List Int) (t : Nat) (e : Ending) (w' : World) : Prop :=
  ∃ B d, e = .returned (.tuple #[.slice B (rho f t) d, .int .i64 (it f (rho f t) t)]) ∧ Own w.heap.size w' (.slice B (rho f t) d) (ints (way f t)) ∧ Below w.heap.size w w'

theorem AtLabel.mk {A : Option Addr} {c : Nat} {f : List Int} {t : Nat} {w w' : World} {v : Value} {M x : Nat} {u9 u10 u11 u12 u13 u14 u15 u16 u17 u18 u19 u20 u21 u22 u23 u24 u25 u26 u27 u28 : Value} (j : Nat) (hj : j < rho f t) (ho : Own w.heap.size w' v (ints (walk f t j))) (hb : Below w.heap.size w w') (hM : mask (walk f t j) = M) (hx : it f j t = x) :
    AtLabel A c f t w { tmps := #[.slice A f.length c, .int .i64 t, undef, undef, .slice none 0 0, .int .i64 0, v, .int .i64 M, .int .i64 x, u9, u10, u11, u12, u13, u14, u15, u16, u17, u18, u19, u20, u21, u22, u23, u24, u25, u26, u27, u28], defers := [] } w' :=
  ⟨j, v, u9, u10, u11, u12, u13, u14, u15, u16, u17, u18, u19, u20, u21, u22, u23, u24, u25, u26, u27, u28, hj, by rw [hM, hx], ho, hb⟩

set_option maxHeartbeats 1000000 in
theorem walked_c (A : Option Addr) (c : Nat) (f : List Int) (t : Nat) (w : World) (hR : RdA w A f) (hf : Good f) (ht : t < f.length) :
    Calls Try.prog 31 #[.slice A f.length c, .int .i64 t] w (WalkedR w f t) := by
  have hrp := rho_pos hf ht
  have hrl := rho_le hf ht
  have h7 := hf.1.2
  go_enter Try.func31, Try.ntmps31
  go_wp2
  refine wp_scope_jumps 0 (AtLabel A c f t w) (fun a' _ => 8 - lenOf (a'.tmps.getD 6 undef)) rfl ?_ ?_
  · have hj : 0 < rho f t := hrp
    have ho : Own w.heap.size w (.slice none 0 0) (ints (walk f t 0)) := Own.nil _ _
    have hb : Below w.heap.size w w := Below.refl _ _
    have hit := hf.it_lt ht 0
    have hnx : nth f (it f 0 t) = (it f (0 + 1) t : Int) := hf.nth_ap hit
    have q1 := mask_or (l := walk f t 0) (x := it f 0 t) (mem_walk_lt hf ht 0) (by omega)
    rw [← walk_succ] at q1
    have hit1 := hf.it_lt ht (0 + 1)
    have q2 := mask_and (l := walk f t (0 + 1)) (x := it f (0 + 1) t) (mem_walk_lt hf ht (0 + 1)) (by omega)
    have HI := hid (ints_walk f t 0)
    have HL := hid (ints_walk_len f t 0)
    have hsz := hb.size
    have HR := hid hR
    have HX := hid hnx
    clear hnx hR
    obtain ⟨ad, rfl, -⟩ := HR.out _ hit
    by_cases hr : (0 + 1) = rho f t
    · have hnm : it f (0 + 1) t ∈ walk f t (0 + 1) := (rho_first hf ht (by omega)).2 hr
      rw [decide_eq_true hnm, Bool.not_true] at q2
      clear hnm
      generalize hM' : mask (walk f t (0 + 1)) = M' at *
      rw [show mask (walk f t 0) = 0 from rfl] at q1
      rw [show it f 0 t = t from rfl] at q1 hit HI HX
      generalize hy : it f (0 + 1) t = y at *
      have K := hid hM'
      have KY := hid hy
      clear hM' hy
      have q1' : bits BinOp.or IntKind.i64 0 (wrap64 (2 ^ t)) = (M' : Int) := q1
      clear q1
      go_wp2
      go_step3
      rename_i K1 hK1
      refine hK1 _ _ ?_
      go_wp2_with (at_builtin; refine wpList_app1 _ rfl _ _ rfl w.heap.size _ (ints (walk f t 0)) rfl (ho.alloc _) w.heap.size (t : Int) rfl (cell_one1 _ _ _) (by have := HL.out; omega) (by simp <;> omega) ?_; intro A3 c3 w3 o3 b3; have b3' : Below w.heap.size w w3 := (hb.alloc hsz _).trans b3; obtain ⟨ad', ee, hc⟩ := (HR.out.below b3') t hit; rw [HX.out] at hc; cases ee)
      simp only [Exit.jump]
      go_ret2
      rw [← HI.out] at o3
      rw [HL.out] at o3
      refine ⟨A3, c3, ?_, ?_, b3'⟩
      · show Ending.returned (.tuple #[.slice A3 ((ints (walk f t 0)).length + 1) c3, .int .i64 (y : Int)]) = _
        rw [HL.out, ← hr, ← KY.out]
      · rw [way, ← hr]; exact o3
    · have hnm : it f (0 + 1) t ∉ walk f t (0 + 1) := fun e => hr ((rho_first hf ht (by omega)).1 e)
      rw [decide_eq_false hnm, Bool.not_false] at q2
      clear hnm
      generalize hM' : mask (walk f t (0 + 1)) = M' at *
      rw [show mask (walk f t 0) = 0 from rfl] at q1
      rw [show it f 0 t = t from rfl] at q1 hit HI HX
      generalize hy : it f (0 + 1) t = y at *
      have K := hid hM'
      have KY := hid hy
      clear hM' hy
      have q1' : bits BinOp.or IntKind.i64 0 (wrap64 (2 ^ t)) = (M' : Int) := q1
      clear q1
      go_wp2
      go_step3
      rename_i K1 hK1
      refine hK1 _ _ ?_
      go_wp2_with (at_builtin; refine wpList_app1 _ rfl _ _ rfl w.heap.size _ (ints (walk f t 0)) rfl (ho.alloc _) w.heap.size (t : Int) rfl (cell_one1 _ _ _) (by have := HL.out; omega) (by simp <;> omega) ?_; intro A3 c3 w3 o3 b3; have b3' : Below w.heap.size w w3 := (hb.alloc hsz _).trans b3; obtain ⟨ad', ee, hc⟩ := (HR.out.below b3') t hit; rw [HX.out] at hc; cases ee)
      refine wp_goto ?_
      rw [← HI.out] at o3
      refine ⟨rfl, AtLabel.mk (0 + 1) (by omega) o3 b3' K.out KY.out⟩
  · rintro a' wr ⟨j, v, u9, u10, u11, u12, u13, u14, u15, u16, u17, u18, u19, u20, u21, u22, u23, u24, u25, u26, u27, u28, hj, rfl, ho, hb⟩
    have hit := hf.it_lt ht j
    have hnx : nth f (it f j t) = (it f (j + 1) t : Int) := hf.nth_ap hit
    have q1 := mask_or (l := walk f t j) (x := it f j t) (mem_walk_lt hf ht j) (by omega)
    rw [← walk_succ] at q1
    have hit1 := hf.it_lt ht (j + 1)
    have q2 := mask_and (l := walk f t (j + 1)) (x := it f (j + 1) t) (mem_walk_lt hf ht (j + 1)) (by omega)
    have HI := hid (ints_walk f t j)
    have HL := hid (ints_walk_len f t j)
    have hsz := hb.size
    have HR := hid hR
    have HX := hid hnx
    clear hnx hR
    obtain ⟨ad, rfl, -⟩ := HR.out _ hit
    by_cases hr : (j + 1) = rho f t
    · have hnm : it f (j + 1) t ∈ walk f t (j + 1) := (rho_first hf ht (by omega)).2 hr
      rw [decide_eq_true hnm, Bool.not_true] at q2
      clear hnm
      generalize hM' : mask (walk f t (j + 1)) = M' at *
      generalize hM : mask (walk f t j) = M at *
      have K := hid hM'
      clear hM hM'
      generalize hx : it f j t = x at *
      generalize hy : it f (j + 1) t = y at *
      have KX := hid hx
      have KY := hid hy
      clear hx hy
      go_wp2_with (at_builtin; refine wpList_app1 _ rfl _ _ rfl w.heap.size _ (ints (walk f t j)) rfl (ho.alloc _) wr.heap.size (x : Int) rfl (cell_one1 _ _ _) (by have := HL.out; omega) (by simp <;> omega) ?_; intro A3 c3 w3 o3 b3; have b3' : Below w.heap.size w w3 := (hb.alloc hsz _).trans b3; obtain ⟨ad', ee, hc⟩ := (HR.out.below b3') x hit; rw [HX.out] at hc; cases ee)
      simp only [Exit.jump]
      go_ret2
      rw [← HI.out] at o3
      rw [HL.out] at o3
      refine ⟨A3, c3, ?_, ?_, b3'⟩
      · show Ending.returned (.tuple #[.slice A3 ((ints (walk f t j)).length + 1) c3, .int .i64 (y : Int)]) = _
        rw [HL.out, ← hr, ← KY.out]
      · rw [way, ← hr]; exact o3
    · have hnm : it f (j + 1) t ∉ walk f t (j + 1) := fun e => hr ((rho_first hf ht (by omega)).1 e)
      rw [decide_eq_false hnm, Bool.not_false] at q2
      clear hnm
      generalize hM' : mask (walk f t (j + 1)) = M' at *
      generalize hM : mask (walk f t j) = M at *
      have K := hid hM'
      clear hM hM'
      generalize hx : it f j t = x at *
      generalize hy : it f (j + 1) t = y at *
      have KX := hid hx
      have KY := hid hy
      clear hx hy
      go_wp2_with (at_builtin; refine wpList_app1 _ rfl _ _ rfl w.heap.size _ (ints (walk f t j)) rfl (ho.alloc _) wr.heap.size (x : Int) rfl (cell_one1 _ _ _) (by have := HL.out; omega) (by simp <;> omega) ?_; intro A3 c3 w3 o3 b3; have b3' : Below w.heap.size w w3 := (hb.alloc hsz _).trans b3; obtain ⟨ad', ee, hc⟩ := (HR.out.below b3') x hit; rw [HX.out] at hc; cases ee)
      refine wp_goto ?_
      rw [← HI.out] at o3
      refine ⟨rfl, AtLabel.mk (j + 1) (by omega) o3 b3' K.out KY.out, ?_⟩
      obtain ⟨A0, c0, rfl, -⟩ := ho.form
      have := HL.out
      show 8 - ((ints (walk f t j)).length + 1) < 8 - (ints (walk f t j)).length
      omega

end Go.Proofs.Ytjipecfoiddkjaa
