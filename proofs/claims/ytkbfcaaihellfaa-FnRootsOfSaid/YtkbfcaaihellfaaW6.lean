/- Steps on the way to the law; each part says what it proves. -/
import Derived.Test.YtkbfcaaihellfaaW5
import Derived.Test.YtkbfcaaihellfaaU14
import Derived.WalkKit
import Derived.Test.YtkbfcaaihellfaaU23
import Derived.WalkMore
import Derived.ScopeJumps
import Derived.BigQuiet
import Derived.Deep.QuietTactic

set_option linter.unusedSimpArgs false

/- Contracts of the laws' draws of maps, a goroutine alone on whatever schedule; where ways meet again. -/
namespace Go.Proofs.Ytkbfcaaihellfaa
open Go.Conc Go.ConcN Go.RowKit
set_option linter.unusedVariables false
set_option linter.unusedSectionVars false

section
variable {Sb : Nat → Prop} {Post : Value → World → Prop} {v v' w w' W0 : World} {A B : Option Addr} {c d : Nat} {f g xs : List Int} {F F' : World → Prop}
theorem drawRootsOf_la {a : Option Addr} {len cap : Nat} {zs : List Int} (hp : PR Sb v w) (h : RowIn .u8 v a len cap zs) (hn : len ≤ 1048576) : CLA Sb Post 26 #[.slice a len cap] w fun x v' => (∃ (xs : List Int) (A : Option Addr) (c : Nat), xs.length ≤ 8 ∧ x = .slice A xs.length c ∧ RdA v' A xs) ∧ Ltr Sb v v' :=
  callsLA (by rfl) hp (fun τ => DrawRootsOf_c a len cap zs (v.tp τ 0) h hn) fun τ e v' h => let ⟨xs, A, c, h1, e1, ho, hb⟩ := h; ⟨_, e1, ⟨xs, A, c, h1, rfl, ho.rd⟩, ltr_of_below hb⟩
theorem drawAllWith_la {a : Option Addr} {len cap : Nat} {zs : List Int} (hp : PR Sb v w) (h : RowIn .u8 v a len cap zs) (hn : len ≤ 1048576) : CLA Sb Post 19 #[.slice a len cap] w fun x v' => (∃ (xs : List Int) (A : Option Addr) (c : Nat), xs.length ≤ 8 ∧ x = .slice A xs.length c ∧ RdA v' A xs) ∧ Ltr Sb v v' :=
  callsLA (by rfl) hp (fun τ => DrawAllWith_c a len cap zs (v.tp τ 0) h hn) fun τ e v' h => let ⟨xs, A, c, h1, e1, ho, hb⟩ := h; ⟨_, e1, ⟨xs, A, c, h1, rfl, ho.rd⟩, ltr_of_below hb⟩
end
/-- where ways meet again behind a piece of code -/
theorem t_join {γ : Type} {T : γ → Goroutine → World → Prop} {b : Frame} {a : Act} {c : Code} {k : List Item} {cs : List Frame} {y : γ} {w : World} (I : Act → World → Prop) (h1 : ∀ a' w', I a' w' → T y (G (b.atR a' k) cs) w')
    (h2 : (∀ a' w', I a' w' → T y (G (b.atR a' k) cs) w') → T y (G (b.atR a (.code c :: k)) cs) w) : T y (G (b.atR a (.code c :: k)) cs) w := h2 h1
end Go.Proofs.Ytkbfcaaihellfaa

/- Sets of few things as bits. -/
namespace Go.Proofs.Ytkbfcaaihellfaa
open Go.RowKit
set_option linter.unusedVariables false

theorem ofInt64 (a : Nat) (ha : a < 9223372036854775808) : (BitVec.ofInt 64 (a : Int)).toNat = a := by
  rw [BitVec.ofInt_natCast, BitVec.toNat_ofNat]; exact Nat.mod_eq_of_lt (by omega)
theorem i64_and (a b : Nat) (ha : a < 9223372036854775808) (hb : b < 9223372036854775808) : bits .and .i64 (a : Int) (b : Int) = ((a &&& b : Nat) : Int) := by
  have hx : a &&& b < 2 ^ 63 := Nat.and_lt_two_pow _ (by omega)
  show IntKind.i64.wrap ((BitVec.ofInt 64 (a : Int) &&& BitVec.ofInt 64 (b : Int)).toNat : Int) = _
  rw [BitVec.toNat_and, ofInt64 a ha, ofInt64 b hb, IntKind.wrap_i64]
  omega
theorem i64_or (a b : Nat) (ha : a < 9223372036854775808) (hb : b < 9223372036854775808) : bits .or .i64 (a : Int) (b : Int) = ((a ||| b : Nat) : Int) := by
  have hx : a ||| b < 2 ^ 63 := Nat.or_lt_two_pow (by omega) (by omega)
  show IntKind.i64.wrap ((BitVec.ofInt 64 (a : Int) ||| BitVec.ofInt 64 (b : Int)).toNat : Int) = _
  rw [BitVec.toNat_or, ofInt64 a ha, ofInt64 b hb, IntKind.wrap_i64]
  omega

/-- a set of things, as bits -/
def mask (l : List Nat) : Nat := l.foldl (fun m x => m ||| 2 ^ x) 0
theorem mask_snoc (l : List Nat) (x : Nat) : mask (l ++ [x]) = mask l ||| 2 ^ x := by simp [mask, List.foldl_append]
theorem foldl_bit (l : List Nat) (m i : Nat) : (l.foldl (fun m x => m ||| 2 ^ x) m).testBit i = (m.testBit i || decide (i ∈ l)) := by
  induction l generalizing m with
  | nil => simp
  | cons x l ih =>
    rw [List.foldl_cons, ih, Nat.testBit_or, Nat.testBit_two_pow]
    by_cases h : x = i
    · subst h; simp
    · have h' : ¬ i = x := fun e => h e.symm
      simp [h, h']
theorem mask_bit (l : List Nat) (i : Nat) : (mask l).testBit i = decide (i ∈ l) := by rw [mask, foldl_bit]; simp
theorem foldl_lt (l : List Nat) (m : Nat) (hm : m < 256) (h : ∀ x ∈ l, x < 8) : l.foldl (fun m x => m ||| 2 ^ x) m < 256 := by
  induction l generalizing m with
  | nil => exact hm
  | cons x l ih =>
    rw [List.foldl_cons]
    refine ih _ ?_ (fun y hy => h y (List.mem_cons_of_mem _ hy))
    exact Nat.or_lt_two_pow (n := 8) (by omega) (Nat.pow_lt_pow_right (by omega) (h x (by simp)))
theorem mask_lt {l : List Nat} (h : ∀ x ∈ l, x < 8) : mask l < 256 := foldl_lt l 0 (by omega) h
theorem wrap_pow {x : Nat} (h : x < 8) : wrap64 ((2 : Int) ^ x) = ((2 ^ x : Nat) : Int) := by
  have : x = 0 ∨ x = 1 ∨ x = 2 ∨ x = 3 ∨ x = 4 ∨ x = 5 ∨ x = 6 ∨ x = 7 := by omega
  rcases this with rfl | rfl | rfl | rfl | rfl | rfl | rfl | rfl <;> decide +kernel
theorem pow_lt {x : Nat} (h : x < 8) : 2 ^ x < 256 := Nat.pow_lt_pow_right (n := 8) (by omega) h
/-- 'seen | 1<<x' -/
theorem mask_or {l : List Nat} {x : Nat} (h : ∀ y ∈ l, y < 8) (hx : x < 8) : bits BinOp.or IntKind.i64 (mask l : Int) (wrap64 ((2 : Int) ^ x)) = (mask (l ++ [x]) : Int) := by
  have h1 := mask_lt h
  have h2 := pow_lt hx
  rw [wrap_pow hx, i64_or _ _ (by omega) (by omega), mask_snoc]
/-- 'seen & 1<<x' -/
theorem mask_and {l : List Nat} {x : Nat} (h : ∀ y ∈ l, y < 8) (hx : x < 8) : (bits BinOp.and IntKind.i64 (mask l : Int) (wrap64 ((2 : Int) ^ x)) == 0) = !decide (x ∈ l) := by
  have h1 := mask_lt h
  have h2 := pow_lt hx
  have h3 : 0 < 2 ^ x := Nat.two_pow_pos x
  rw [wrap_pow hx, i64_and _ _ (by omega) (by omega)]
  by_cases hm : x ∈ l
  · have hb : (mask l &&& 2 ^ x).testBit x = true := by rw [Nat.testBit_and, mask_bit, Nat.testBit_two_pow]; simp [hm]
    have hne : mask l &&& 2 ^ x ≠ 0 := fun e => by rw [e] at hb; simp at hb
    simp only [hm, decide_true, Bool.not_true, beq_eq_false_iff_ne]
    omega
  · have he : mask l &&& 2 ^ x = 0 := by
      apply Nat.eq_of_testBit_eq
      intro i
      rw [Nat.testBit_and, mask_bit, Nat.testBit_two_pow]
      by_cases hi : x = i
      · subst hi; simp [hm]
      · simp [hi]
    simp [he, hm]

theorem mem_walk_lt {xs : List Int} (h : Good xs) {t : Nat} (ht : t < xs.length) (m : Nat) : ∀ x ∈ walk xs t m, x < 8 := by
  intro x hx
  obtain ⟨j, _, rfl⟩ := mem_walk.1 hx
  have := h.it_lt ht j
  have := h.1.2
  omega
theorem rho_first {xs : List Int} (h : Good xs) {t : Nat} (ht : t < xs.length) {j : Nat} (hj : j ≤ rho xs t) : it xs j t ∈ walk xs t j ↔ j = rho xs t := by
  constructor
  · intro hm
    obtain ⟨i, hi, e⟩ := mem_walk.1 hm
    rcases Nat.lt_or_ge j (rho xs t) with hlt | hge
    · exact absurd (it_inj h ht (by omega) hlt e) (by omega)
    · omega
  · rintro rfl
    exact rho_back h ht
end Go.Proofs.Ytkbfcaaihellfaa

/- Contracts of chapter 2: ways, tails, loops. -/
namespace Go.Proofs.Ytkbfcaaihellfaa
open Go.RowKit
set_option linter.unusedVariables false

def thB (f : List Int) (t : Int) : Bool := mapOkB f && decide (0 ≤ t ∧ t < f.length)
theorem thB_iff {f : List Int} {t : Int} : thB f t = true ↔ Good f ∧ 0 ≤ t ∧ t < f.length := by
  unfold thB
  rw [Bool.and_eq_true, decide_eq_true_eq]
  exact ⟨fun h => ⟨good_of h.1, h.2⟩, fun h => ⟨ok_of h.1, h.2⟩⟩

theorem thingOk_c (A : Option Addr) (c : Nat) (f : List Int) (t : Int) (w : World) (hR : RdA w A f) (hn : f.length ≤ 1048577) :
    Calls Try.prog 64 #[.slice A f.length c, .int .i64 t] w fun e w' => e = .returned (.bool (thB f t)) ∧ w = w' := by
  have c1 := iMapOk_c A c f w hR hn
  clear hR
  by_cases hf : mapOkB f = true
  · rw [hf] at c1
    by_cases ht : 0 ≤ t ∧ t < f.length
    · have HE := hid (show thB f t = true by simp [thB, hf, ht])
      have c2 := has_t A f.length c t w ht
      clear hf ht
      go_enter Try.func64, Try.ntmps64
      go_wp2_with fail
      refine c1.mono ?_; rintro e w' ⟨rfl, rfl⟩
      go_wp2_with fail
      refine c2.mono ?_; rintro e w' ⟨rfl, rfl⟩
      go_wp2_with fail
      go_ret
      exact ⟨ret_bool HE.out.symm, rfl⟩
    · have HE := hid (show thB f t = false by unfold thB; rw [decide_eq_false ht, Bool.and_false])
      have c2 := has_f A f.length c t w ht
      clear hf ht
      go_enter Try.func64, Try.ntmps64
      go_wp2_with fail
      refine c1.mono ?_; rintro e w' ⟨rfl, rfl⟩
      go_wp2_with fail
      refine c2.mono ?_; rintro e w' ⟨rfl, rfl⟩
      go_wp2_with fail
      go_ret
      exact ⟨ret_bool HE.out.symm, rfl⟩
  · have hf' : mapOkB f = false := by simpa using hf
    have HE := hid (show thB f t = false by simp [thB, hf'])
    rw [hf'] at c1
    clear hf hf'
    go_enter Try.func64, Try.ntmps64
    go_wp2_with fail
    refine c1.mono ?_; rintro e w' ⟨rfl, rfl⟩
    go_wp2_with fail
    go_ret
    exact ⟨ret_bool HE.out.symm, rfl⟩

theorem idxOf_ne (x : Int) : ∀ (xs : List Int) (k : Nat), k < xs.idxOf x → nth xs k ≠ x
  | [], k, h => by simp at h
  | a :: l, k, h => by
    rw [List.idxOf_cons] at h
    by_cases ha : (a == x) = true
    · rw [ha] at h; simp at h
    · have ha' : a ≠ x := by simpa using ha
      have : (a == x) = false := by simpa using ha
      rw [this] at h
      cases k with
      | zero => simpa [nth] using ha'
      | succ k =>
        have := idxOf_ne x l k (by simpa using h)
        simpa [nth] using this

/-- slices.Index -/
theorem index_c (A : Option Addr) (c : Nat) (xs : List Int) (x : Int) (w : World) (hR : RdA w A xs) (hn : xs.length ≤ 1048577) (hx : x ∈ xs) :
    Calls Try.prog 66 #[.slice A xs.length c, .int .i64 x] w fun e w' => e = .returned (.int .i64 (xs.idxOf x)) ∧ w = w' := by
  have hlt := List.idxOf_lt_length_of_mem hx
  have hne : ∀ k, k < xs.idxOf x → nth xs k ≠ x := fun k hk => idxOf_ne x xs k hk
  have hat : nth xs (xs.idxOf x) = x := by rw [nth_lt hlt]; exact List.getElem_idxOf hlt
  have HN := hid hne
  have HA := hid hat
  clear hne hat hx
  generalize xs.idxOf x = m at *
  go_enter Try.func66, Try.ntmps66
  go_wp2_with fail
  go_loop [8] (fun i => ∃ k : Nat, k ≤ m ∧ i = .int .i64 k) (fun i => xs.length - (intOf i).toNat)
  case atStart => exact ⟨0, Nat.zero_le _, rfl⟩
  case round =>
    obtain ⟨k, hk, rfl⟩ := hrel
    obtain ⟨ad, rfl, hc⟩ := hR k (by omega)
    clear hR
    by_cases hkm : k < m
    · have hq : (x == nth xs k) = false := by have := HN.out k hkm; simpa using Ne.symm this
      generalize nth xs k = y at *
      go_wp2_with fail
      go_round
      case rel => exact ⟨k + 1, by omega, by go_num⟩
      case measure => simp [intOf]; omega
    · obtain rfl : k = m := by omega
      rw [HA.out] at hc
      go_wp2_with fail
      go_ret
      exact ⟨rfl, rfl⟩

/-! ### walked -/
theorem ints_walk (f : List Int) (t j : Nat) : ints (walk f t (j + 1)) = ints (walk f t j) ++ [(it f j t : Int)] := by rw [walk_succ, ints_append]; rfl
theorem ints_walk_len (f : List Int) (t j : Nat) : (ints (walk f t j)).length = j := by rw [ints_len, walk_len]
def lenOf : Value → Nat
  | .slice _ n _ => n
  | _ => 0
/-- what holds at the label: so many things have been seen -/
def AtLabel (A : Option Addr) (c : Nat) (f : List Int) (t : Nat) (w : World) (a' : Act) (w' : World) : Prop :=
  ∃ (j : Nat) (v : Value) (u9 u10 u11 u12 u13 u14 u15 u16 u17 u18 u19 u20 u21 u22 u23 u24 u25 u26 u27 u28 : Value), j < rho f t ∧
    a' = { tmps := #[.slice A f.length c, .int .i64 t, undef, undef, .slice none 0 0, .int .i64 0, v, .int .i64 (mask (walk f t j)), .int .i64 (it f j t), u9, u10, u11, u12, u13, u14, u15, u16, u17, u18, u19, u20, u21, u22, u23, u24, u25, u26, u27, u28], defers := [] } ∧
    Own w.heap.size w' v (ints (walk f t j)) ∧ Below w.heap.size w w'
def WalkedR (w : World) (f : List Int) (t : Nat) (e : Ending) (w' : World) : Prop :=
  ∃ B d, e = .returned (.tuple #[.slice B (rho f t) d, .int .i64 (it f (rho f t) t)]) ∧ Own w.heap.size w' (.slice B (rho f t) d) (ints (way f t)) ∧ Below w.heap.size w w'

theorem AtLabel.mk {A : Option Addr} {c : Nat} {f : List Int} {t : Nat} {w w' : World} {v : Value} {M x : Nat} {u9 u10 u11 u12 u13 u14 u15 u16 u17 u18 u19 u20 u21 u22 u23 u24 u25 u26 u27 u28 : Value} (j : Nat) (hj : j < rho f t) (ho : Own w.heap.size w' v (ints (walk f t j))) (hb : Below w.heap.size w w') (hM : mask (walk f t j) = M) (hx : it f j t = x) :
    AtLabel A c f t w { tmps := #[.slice A f.length c, .int .i64 t, undef, undef, .slice none 0 0, .int .i64 0, v, .int .i64 M, .int .i64 x, u9, u10, u11, u12, u13, u14, u15, u16, u17, u18, u19, u20, u21, u22, u23, u24, u25, u26, u27, u28], defers := [] } w' :=
  ⟨j, v, u9, u10, u11, u12, u13, u14, u15, u16, u17, u18, u19, u20, u21, u22, u23, u24, u25, u26, u27, u28, hj, by rw [hM, hx], ho, hb⟩

set_option maxHeartbeats 1000000 in
theorem walked_c (A : Option Addr) (c : Nat) (f : List Int) (t : Nat) (w : World) (hR : RdA w A f) (hf : Good f) (ht : t < f.length) :
    Calls Try.prog 65 #[.slice A f.length c, .int .i64 t] w (WalkedR w f t) := by
  have hrp := rho_pos hf ht
  have hrl := rho_le hf ht
  have h7 := hf.1.2
  go_enter Try.func65, Try.ntmps65
  go_wp2
  refine wp_scope_jumps 0 (AtLabel A c f t w) (fun a' _ => 8 - lenOf (a'.tmps.getD 6 undef)) rfl ?_ ?_
  · have hj : 0 < rho f t := hrp
    have ho : Own w.heap.size w (.slice none 0 0) (ints (walk f t 0)) := Own.nil _ _
    have hb : Below w.heap.size w w := Below.refl _ _
    have hit := hf.it_lt ht 0
    have hnx : nth f (it f 0 t) = (it f (0 + 1) t : Int) := hf.nth_ap hit
    have q1 := mask_or (l := walk f t 0) (x := it f 0 t) (mem_walk_lt hf ht 0) (by omega)
    rw [← walk_succ] at q1
    have hit1 := hf.it_lt ht (0 + 1)
    have q2 := mask_and (l := walk f t (0 + 1)) (x := it f (0 + 1) t) (mem_walk_lt hf ht (0 + 1)) (by omega)
    have HI := hid (ints_walk f t 0)
    have HL := hid (ints_walk_len f t 0)
    have hsz := hb.size
    have HR := hid hR
    have HX := hid hnx
    clear hnx hR
    obtain ⟨ad, rfl, -⟩ := HR.out _ hit
    by_cases hr : (0 + 1) = rho f t
    · have hnm : it f (0 + 1) t ∈ walk f t (0 + 1) := (rho_first hf ht (by omega)).2 hr
      rw [decide_eq_true hnm, Bool.not_true] at q2
      clear hnm
      generalize hM' : mask (walk f t (0 + 1)) = M' at *
      rw [show mask (walk f t 0) = 0 from rfl] at q1
      rw [show it f 0 t = t from rfl] at q1 hit HI HX
      generalize hy : it f (0 + 1) t = y at *
      have K := hid hM'
      have KY := hid hy
      clear hM' hy
      have q1' : bits BinOp.or IntKind.i64 0 (wrap64 (2 ^ t)) = (M' : Int) := q1
      clear q1
      go_wp2
      go_step3
      rename_i K1 hK1
      refine hK1 _ _ ?_
      go_wp2_with (at_builtin; refine wpList_app1 _ rfl _ _ rfl w.heap.size _ (ints (walk f t 0)) rfl (ho.alloc _) w.heap.size (t : Int) rfl (cell_one1 _ _ _) (by have := HL.out; omega) (by simp <;> omega) ?_; intro A3 c3 w3 o3 b3; have b3' : Below w.heap.size w w3 := (hb.alloc hsz _).trans b3; obtain ⟨ad', ee, hc⟩ := (HR.out.below b3') t hit; rw [HX.out] at hc; cases ee)
      simp only [Exit.jump]
      go_ret2
      rw [← HI.out] at o3
      rw [HL.out] at o3
      refine ⟨A3, c3, ?_, ?_, b3'⟩
      · show Ending.returned (.tuple #[.slice A3 ((ints (walk f t 0)).length + 1) c3, .int .i64 (y : Int)]) = _
        rw [HL.out, ← hr, ← KY.out]
      · rw [way, ← hr]; exact o3
    · have hnm : it f (0 + 1) t ∉ walk f t (0 + 1) := fun e => hr ((rho_first hf ht (by omega)).1 e)
      rw [decide_eq_false hnm, Bool.not_false] at q2
      clear hnm
      generalize hM' : mask (walk f t (0 + 1)) = M' at *
      rw [show mask (walk f t 0) = 0 from rfl] at q1
      rw [show it f 0 t = t from rfl] at q1 hit HI HX
      generalize hy : it f (0 + 1) t = y at *
      have K := hid hM'
      have KY := hid hy
      clear hM' hy
      have q1' : bits BinOp.or IntKind.i64 0 (wrap64 (2 ^ t)) = (M' : Int) := q1
      clear q1
      go_wp2
      go_step3
      rename_i K1 hK1
      refine hK1 _ _ ?_
      go_wp2_with (at_builtin; refine wpList_app1 _ rfl _ _ rfl w.heap.size _ (ints (walk f t 0)) rfl (ho.alloc _) w.heap.size (t : Int) rfl (cell_one1 _ _ _) (by have := HL.out; omega) (by simp <;> omega) ?_; intro A3 c3 w3 o3 b3; have b3' : Below w.heap.size w w3 := (hb.alloc hsz _).trans b3; obtain ⟨ad', ee, hc⟩ := (HR.out.below b3') t hit; rw [HX.out] at hc; cases ee)
      refine wp_goto ?_
      rw [← HI.out] at o3
      refine ⟨rfl, AtLabel.mk (0 + 1) (by omega) o3 b3' K.out KY.out⟩
  · rintro a' wr ⟨j, v, u9, u10, u11, u12, u13, u14, u15, u16, u17, u18, u19, u20, u21, u22, u23, u24, u25, u26, u27, u28, hj, rfl, ho, hb⟩
    have hit := hf.it_lt ht j
    have hnx : nth f (it f j t) = (it f (j + 1) t : Int) := hf.nth_ap hit
    have q1 := mask_or (l := walk f t j) (x := it f j t) (mem_walk_lt hf ht j) (by omega)
    rw [← walk_succ] at q1
    have hit1 := hf.it_lt ht (j + 1)
    have q2 := mask_and (l := walk f t (j + 1)) (x := it f (j + 1) t) (mem_walk_lt hf ht (j + 1)) (by omega)
    have HI := hid (ints_walk f t j)
    have HL := hid (ints_walk_len f t j)
    have hsz := hb.size
    have HR := hid hR
    have HX := hid hnx
    clear hnx hR
    obtain ⟨ad, rfl, -⟩ := HR.out _ hit
    by_cases hr : (j + 1) = rho f t
    · have hnm : it f (j + 1) t ∈ walk f t (j + 1) := (rho_first hf ht (by omega)).2 hr
      rw [decide_eq_true hnm, Bool.not_true] at q2
      clear hnm
      generalize hM' : mask (walk f t (j + 1)) = M' at *
      generalize hM : mask (walk f t j) = M at *
      have K := hid hM'
      clear hM hM'
      generalize hx : it f j t = x at *
      generalize hy : it f (j + 1) t = y at *
      have KX := hid hx
      have KY := hid hy
      clear hx hy
      go_wp2_with (at_builtin; refine wpList_app1 _ rfl _ _ rfl w.heap.size _ (ints (walk f t j)) rfl (ho.alloc _) wr.heap.size (x : Int) rfl (cell_one1 _ _ _) (by have := HL.out; omega) (by simp <;> omega) ?_; intro A3 c3 w3 o3 b3; have b3' : Below w.heap.size w w3 := (hb.alloc hsz _).trans b3; obtain ⟨ad', ee, hc⟩ := (HR.out.below b3') x hit; rw [HX.out] at hc; cases ee)
      simp only [Exit.jump]
      go_ret2
      rw [← HI.out] at o3
      rw [HL.out] at o3
      refine ⟨A3, c3, ?_, ?_, b3'⟩
      · show Ending.returned (.tuple #[.slice A3 ((ints (walk f t j)).length + 1) c3, .int .i64 (y : Int)]) = _
        rw [HL.out, ← hr, ← KY.out]
      · rw [way, ← hr]; exact o3
    · have hnm : it f (j + 1) t ∉ walk f t (j + 1) := fun e => hr ((rho_first hf ht (by omega)).1 e)
      rw [decide_eq_false hnm, Bool.not_false] at q2
      clear hnm
      generalize hM' : mask (walk f t (j + 1)) = M' at *
      generalize hM : mask (walk f t j) = M at *
      have K := hid hM'
      clear hM hM'
      generalize hx : it f j t = x at *
      generalize hy : it f (j + 1) t = y at *
      have KX := hid hx
      have KY := hid hy
      clear hx hy
      go_wp2_with (at_builtin; refine wpList_app1 _ rfl _ _ rfl w.heap.size _ (ints (walk f t j)) rfl (ho.alloc _) wr.heap.size (x : Int) rfl (cell_one1 _ _ _) (by have := HL.out; omega) (by simp <;> omega) ?_; intro A3 c3 w3 o3 b3; have b3' : Below w.heap.size w w3 := (hb.alloc hsz _).trans b3; obtain ⟨ad', ee, hc⟩ := (HR.out.below b3') x hit; rw [HX.out] at hc; cases ee)
      refine wp_goto ?_
      rw [← HI.out] at o3
      refine ⟨rfl, AtLabel.mk (j + 1) (by omega) o3 b3' K.out KY.out, ?_⟩
      obtain ⟨A0, c0, rfl, -⟩ := ho.form
      have := HL.out
      show 8 - ((ints (walk f t j)).length + 1) < 8 - (ints (walk f t j)).length
      omega

end Go.Proofs.Ytkbfcaaihellfaa

/- Contracts of chapter 1: turned maps; names. -/
namespace Go.Proofs.Ytkbfcaaihellfaa
open Go.RowKit
set_option linter.unusedVariables false

/-- the things to which the first k are led -/
def imgs (f : List Int) (k : Nat) : List Nat := (List.range k).map (ap f)
theorem imgs_succ (f : List Int) (k : Nat) : imgs f (k + 1) = imgs f k ++ [ap f k] := by simp [imgs, List.range_succ]
theorem mem_imgs {f : List Int} {k x : Nat} : x ∈ imgs f k ↔ ∃ j, j < k ∧ ap f j = x := by simp [imgs]
theorem imgs_lt {f : List Int} (h : Good f) {k : Nat} (hk : k ≤ f.length) : ∀ x ∈ imgs f k, x < 8 := by
  intro x hx
  obtain ⟨j, hj, rfl⟩ := mem_imgs.1 hx
  have := h.ap_lt (show j < f.length by omega)
  have := h.1.2
  omega
/-- what has been led back behind k steps -/
def bk (f : List Int) : Nat → List Int
  | 0 => List.replicate f.length 0
  | k + 1 => (bk f k).set (ap f k) (k : Int)
theorem bk_len (f : List Int) : ∀ k, (bk f k).length = f.length
  | 0 => by simp [bk]
  | k + 1 => by simp [bk, bk_len f k]
theorem bk_nth {f : List Int} (hf : Good f) (hi : Inj f) : ∀ k, k ≤ f.length → ∀ j, j < k → nth (bk f k) (ap f j) = (j : Int)
  | 0, _, j, hj => by omega
  | k + 1, hk, j, hj => by
    have hl := hf.ap_lt (show k < f.length by omega)
    rw [bk]
    by_cases e : j = k
    · subst e
      simp [nth, bk_len, hl]
    · have hne : ap f k ≠ ap f j := fun h => e (hi j k (by omega) (by omega) h.symm)
      have := bk_nth hf hi k (by omega) j (by omega)
      simpa [nth, List.getElem?_set, hne] using this
theorem bk_all {f : List Int} (hf : Good f) (hi : Inj f) : bk f f.length = mk f.length (back f) := by
  refine ext_nth (by rw [bk_len, mk_len]) fun x hx => ?_
  rw [bk_len] at hx
  obtain ⟨k, hk, rfl⟩ := inj_surj hf hi hx
  rw [bk_nth hf hi _ (Nat.le_refl _) k hk, nth_mk hx, back_ap hf hi hk]
/-- a map turned round and the word whether there is one are handed back -/
def TurnR (w : World) (xs : List Int) (b : Bool) (e : Ending) (w' : World) : Prop := ∃ A c, e = .returned (.tuple #[.slice A xs.length c, .bool b]) ∧ Own w.heap.size w' (.slice A xs.length c) xs ∧ Below w.heap.size w w' ∧ (xs = [] → A = none ∧ c = 0)
theorem TurnR.no (w : World) {w' : World} (hb : Below w.heap.size w w') : TurnR w [] false (.returned (.tuple #[.slice none 0 0, .bool false])) w' := ⟨none, 0, rfl, Own.nil _ _, hb, fun _ => ⟨rfl, rfl⟩⟩

theorem turnR_mk {w wr : World} {n c : Nat} {A : Option Addr} {F : Nat → Nat} {L : List Int} {b : Bool} (h : L = mk n F) (ho : Own w.heap.size wr (.slice A n c) (mk n F)) (hb : Below w.heap.size w wr) (hn : 1 ≤ n) : TurnR w L b (.returned (.tuple #[.slice A n c, .bool b])) wr := by
  subst h
  refine ⟨A, c, by rw [mk_len], by rw [mk_len]; exact ho, hb, fun e => ?_⟩
  have := congrArg List.length e
  rw [mk_len] at this
  simp at this
  omega

set_option maxHeartbeats 400000 in
theorem iTurnedOf_c (A : Option Addr) (c : Nat) (f : List Int) (w : World) (hR : RdA w A f) (hn : f.length ≤ 1048577) :
    Calls Try.prog 35 #[.slice A f.length c] w (TurnR w (turnedL f) (turnedB f)) := by
  have c1 := iMapOk_c A c f w hR hn
  by_cases hf : mapOkB f = true
  · rw [hf] at c1
    have gf := good_of hf
    have HG := hid gf
    have h1 := gf.1.1
    have h7 := gf.1.2
    have C1 := hid c1
    clear hf gf c1
    go_enter Try.func35, Try.ntmps35
    go_wp2_with fail
    refine C1.out.mono ?_; rintro e w' ⟨rfl, rfl⟩
    go_wp2_with (at_make; refine wpList_mk _ rfl _ _ rfl _ f.length rfl rfl rfl (by omega) ?_; intro w1 hown hb)
    go_loopw [5, 16] (fun s i wr => ∃ k : Nat, k ≤ f.length ∧ i = .int .i64 k ∧ s = .int .i64 (mask (imgs f k)) ∧ Hid (∀ i j, i < k → j < k → ap f i = ap f j → i = j) ∧ Own w.heap.size wr (.slice (some ⟨w.heap.size, 0, none⟩) f.length f.length) (bk f k) ∧ Below w.heap.size w wr) (fun _ i _ => f.length - (intOf i).toNat)
    case atStart => exact ⟨0, Nat.zero_le _, rfl, rfl, hid (fun i j hi => by omega), hown, hb⟩
    case round =>
      clear hown hb
      obtain ⟨k, hk, rfl, rfl, hinj, hown, hb⟩ := hrel
      by_cases hlt : k < f.length
      · obtain ⟨ad, rfl, hc⟩ := (hR.below hb) k hlt
        have hlt2 := HG.out.ap_lt hlt
        rw [HG.out.nth_ap hlt] at hc
        have q2 := mask_and (l := imgs f k) (x := ap f k) (imgs_lt HG.out hk) (by omega)
        have q1 := mask_or (l := imgs f k) (x := ap f k) (imgs_lt HG.out hk) (by omega)
        rw [← imgs_succ] at q1
        by_cases hm : ap f k ∈ imgs f k
        · rw [decide_eq_true hm, Bool.not_true] at q2
          have HN := hid (show turnedB f = false by
            cases hB : turnedB f with
            | false => rfl
            | true =>
              obtain ⟨j, hj, e⟩ := mem_imgs.1 hm
              have := (turnedB_iff.1 hB).2 j k (by omega) hlt e
              omega)
          clear hm hown hR q1
          generalize mask (imgs f k) = M at *
          generalize ap f k = X at *
          go_wp2
          go_ret2
          rw [show turnedL f = [] by rw [turnedL, if_neg (by rw [HN.out]; simp)], HN.out]
          exact TurnR.no w hb
        · rw [decide_eq_false hm, Bool.not_false] at q2
          have HI := hid (show ∀ i j, i < k + 1 → j < k + 1 → ap f i = ap f j → i = j by
            intro i j hi hj e
            by_cases hik : i = k
            · by_cases hjk : j = k
              · omega
              · exact absurd (mem_imgs.2 ⟨j, by omega, by rw [← e, hik]⟩) hm
            · by_cases hjk : j = k
              · exact absurd (mem_imgs.2 ⟨i, by omega, by rw [e, hjk]⟩) hm
              · exact hinj.out i j (by omega) (by omega) e)
          have hc2 := hown.cell (k := ap f k) (by rw [bk_len]; exact hlt2)
          have hf2 := hown.frozen (ap f k)
          have hs := hown.store (ap f k) (k : Int)
          rw [show (bk f k).set (ap f k) (k : Int) = bk f (k + 1) from rfl] at hs
          have hbs := hb.setCell (p := ⟨w.heap.size, ap f k, none⟩) (Nat.le_refl _) (.int .i64 (k : Int))
          clear hown hb hR hm hinj
          generalize hM' : mask (imgs f (k + 1)) = M' at *
          have HM := hid hM'
          clear hM'
          generalize mask (imgs f k) = M at *
          generalize ap f k = X at *
          go_wp2
          go_roundw
          case rel => exact ⟨k + 1, by omega, by go_num, by rw [HM.out], HI, hs, hbs⟩
          case measure => simp [intOf]; omega
      · obtain rfl : k = f.length := by omega
        have hI : Inj f := fun i j hi hj e => hinj.out i j hi hj e
        have HN := hid (turnedB_iff.2 ⟨HG.out, hI⟩)
        rw [bk_all HG.out hI] at hown
        clear hR hI hinj
        generalize mask (imgs f f.length) = M at *
        go_wp2
        go_ret2
        rw [HN.out]
        exact turnR_mk (by rw [turnedL, if_pos HN.out]) hown hb (by omega)
  · rw [show mapOkB f = false by simpa using hf] at c1
    have HN := hid (show turnedB f = false by simp [turnedB, hf])
    clear hf hR
    go_enter Try.func35, Try.ntmps35
    go_wp2_with fail
    refine c1.mono ?_; rintro e w' ⟨rfl, rfl⟩
    go_wp2_with fail
    go_ret2
    rw [show turnedL f = [] by rw [turnedL, if_neg (by rw [HN.out]; simp)], HN.out]
    exact TurnR.no w (Below.refl _ _)

end Go.Proofs.Ytkbfcaaihellfaa

/- Contracts of chapter 1, the reference's: what leads to a thing; turned maps. -/
namespace Go.Proofs.Ytkbfcaaihellfaa
open Go.RowKit
set_option linter.unusedVariables false

/-- of the first k things those that are led to t -/
def frN (f : List Int) (t : Int) (k : Nat) : List Nat := (List.range k).filter fun j => nth f j == t
def fromL (f : List Int) (t : Int) : List Int := if mapOkB f = true then ints (frN f t f.length) else []
theorem frN_yes {f : List Int} {t : Int} {k : Nat} (h : nth f k = t) : ints (frN f t (k + 1)) = ints (frN f t k) ++ [(k : Int)] := by
  rw [frN, List.range_succ, List.filter_append, show List.filter (fun j => nth f j == t) [k] = [k] by simp [h], ints_append]; rfl
theorem frN_no {f : List Int} {t : Int} {k : Nat} (h : nth f k ≠ t) : ints (frN f t (k + 1)) = ints (frN f t k) := by
  rw [frN, List.range_succ, List.filter_append, show List.filter (fun j => nth f j == t) [k] = [] by simp [h], List.append_nil]; rfl
theorem frN_len (f : List Int) (t : Int) (k : Nat) : (ints (frN f t k)).length ≤ k := by
  rw [ints_len, frN]
  exact Nat.le_trans (List.length_filter_le _ _) (by simp)
theorem mem_frN {f : List Int} {t : Int} {k x : Nat} : x ∈ frN f t k ↔ x < k ∧ nth f x = t := by simp [frN]
theorem frN_nodup (f : List Int) (t : Int) (k : Nat) : (frN f t k).Nodup := List.Nodup.sublist List.filter_sublist List.nodup_range

set_option maxHeartbeats 400000 in
theorem sFromOf_c (A : Option Addr) (c : Nat) (f : List Int) (t : Int) (w : World) (hR : RdA w A f) (hn : f.length ≤ 1048577) :
    Calls Try.prog 54 #[.slice A f.length c, .int .i64 t] w (RetI w (fromL f t)) := by
  have o0 := own_empty w
  have b0 : Below w.heap.size w (w.alloc (.cells #[] 3)) := (Below.refl _ _).alloc (Nat.le_refl _) _
  have c1 := fun W (hb : Below w.heap.size w W) => sMapOk_c A c f W (hR.below hb) hn
  by_cases hf : mapOkB f = true
  · rw [hf] at c1
    have HE := hid (show fromL f t = ints (frN f t f.length) from if_pos hf)
    have h7 := (good_of hf).1.2
    have C1 := hid c1
    clear hf c1
    go_enter Try.func54, Try.ntmps54
    go_wp2_with fail
    go_loopw [5, 6] (fun v i wr => ∃ k : Nat, k ≤ f.length ∧ i = .int .i64 k ∧ Own w.heap.size wr v (ints (frN f t k)) ∧ Below w.heap.size w wr) (fun _ i _ => f.length - (intOf i).toNat)
    case atStart => exact ⟨0, Nat.zero_le _, rfl, o0, b0⟩
    case round =>
      clear o0 b0
      obtain ⟨k, hk, rfl, ho, hb⟩ := hrel
      by_cases hlt : k < f.length
      · obtain ⟨ad, rfl, hc⟩ := (hR.below hb) k hlt
        have hll := frN_len f t k
        have HLL := hid hll
        have hsz := hb.size
        have K1 := hid (C1.out wr hb)
        clear hll hR C1
        by_cases hx : nth f k = t
        · have HM := hid (frN_yes hx)
          have q1 : (nth f k == t) = true := by simpa using hx
          clear hx
          generalize nth f k = X at *
          generalize ints (frN f t k) = M at *
          go_wp2_with fail
          refine K1.out.mono ?_; rintro e w' ⟨rfl, rfl⟩
          go_wp2_with (at_builtin; refine wpList_app1 _ rfl _ _ rfl w.heap.size _ M rfl (ho.alloc _) wr.heap.size (k : Int) rfl (cell_one1 _ _ _) (by have := HLL.out; omega) (by simp; omega) ?_; intro A3 c3 w3 o3 b3)
          have b3' : Below w.heap.size w w3 := (hb.alloc hsz _).trans b3
          clear b3 hb ho
          go_wp2_with fail
          go_roundw
          case rel => exact ⟨k + 1, by omega, by go_num, by rw [HM.out]; exact o3, b3'⟩
          case measure => simp [intOf]; omega
        · have HM := hid (frN_no hx)
          have q1 : (nth f k == t) = false := by simpa using hx
          clear hx
          generalize nth f k = X at *
          generalize ints (frN f t k) = M at *
          go_wp2_with fail
          refine K1.out.mono ?_; rintro e w' ⟨rfl, rfl⟩
          go_wp2_with fail
          go_roundw
          case rel => exact ⟨k + 1, by omega, by go_num, by rw [HM.out]; exact ho, hb⟩
          case measure => simp [intOf]; omega
      · obtain rfl : k = f.length := by omega
        obtain ⟨A4, c4, rfl, _⟩ := ho.form
        rw [← HE.out] at *
        clear hR C1
        go_wp2_with fail
        go_ret
        exact retI_own ho hb
  · have HE := hid (show fromL f t = [] from if_neg hf)
    rw [show mapOkB f = false by simpa using hf] at c1
    have K1 := hid (c1 _ b0)
    clear c1 hf hR
    by_cases h0 : 0 < f.length
    · go_enter Try.func54, Try.ntmps54
      go_wp2_with fail
      refine wp_loop_rounds 1 ?_
      rw [rounds_succ]
      go_wp2_with fail
      refine K1.out.mono ?_; rintro e w' ⟨rfl, rfl⟩
      go_wp2_with fail
      go_ret
      rw [HE.out]
      exact retI_own o0 b0
    · have q1 : decide ((0 : Int) < (f.length : Int)) = false := decide_eq_false (by omega)
      have q0 : decide (0 < f.length) = false := decide_eq_false (by omega)
      clear h0
      go_enter Try.func54, Try.ntmps54
      go_wp2_with fail
      refine wp_loop_rounds 1 ?_
      rw [rounds_succ]
      go_wp2_with fail
      go_ret
      rw [HE.out]
      exact retI_own o0 b0

theorem one_list {l : List Nat} (hd : l.Nodup) {h : Nat} (hm : h ∈ l) (ha : ∀ x ∈ l, x = h) : l = [h] := by
  cases l with
  | nil => simp at hm
  | cons a l =>
    obtain rfl := ha a (by simp)
    cases l with
    | nil => rfl
    | cons b l =>
      obtain rfl := ha b (by simp)
      simp at hd
theorem fr_inj {f : List Int} (hf : Good f) (hi : Inj f) {k : Nat} (hk : k < f.length) : frN f k f.length = [back f k] := by
  obtain ⟨h1, h2⟩ := back_spec hf hi hk
  refine one_list (frN_nodup _ _ _) (mem_frN.2 ⟨h1, by rw [hf.nth_ap h1, h2]⟩) fun x hx => ?_
  obtain ⟨hx1, hx2⟩ := mem_frN.1 hx
  refine hi x _ hx1 h1 ?_
  rw [hf.nth_ap hx1] at hx2
  omega
theorem fr_one {f : List Int} (hf : Good f) {k : Nat} (hk : k < f.length) (h1 : (frN f k f.length).length = 1) : frN f k f.length = [back f k] := by
  obtain ⟨h, e⟩ := List.length_eq_one_iff.1 h1
  rw [e]
  have hm : h ∈ frN f k f.length := by rw [e]; simp
  obtain ⟨h2, h3⟩ := mem_frN.1 hm
  rw [hf.nth_ap h2] at h3
  have hh : ap f h = k := by omega
  have hin : k ∈ (List.range f.length).map (ap f) := by simp; exact ⟨h, h2, hh⟩
  have hlt := List.idxOf_lt_length_of_mem hin
  have hat := List.getElem_idxOf hlt
  have hb : back f k ∈ frN f k f.length := by
    have hl : back f k < f.length := by simpa [back] using hlt
    refine mem_frN.2 ⟨hl, ?_⟩
    rw [hf.nth_ap hl]
    rw [List.getElem_map, List.getElem_range] at hat
    have : ap f (back f k) = k := hat
    omega
  rw [e] at hb
  simp at hb
  rw [hb]
theorem inj_of_ones {f : List Int} (hf : Good f) (h : ∀ k, k < f.length → (frN f k f.length).length = 1) : Inj f := by
  intro i j hi hj e
  have hk := hf.ap_lt hi
  have e1 := fr_one hf hk (h _ hk)
  have m1 : i ∈ frN f (ap f i) f.length := mem_frN.2 ⟨hi, hf.nth_ap hi⟩
  have m2 : j ∈ frN f (ap f i) f.length := mem_frN.2 ⟨hj, by rw [hf.nth_ap hj, e]⟩
  rw [e1] at m1 m2
  simp at m1 m2
  omega
/-- the same, no word of nil -/
def TurnI (w : World) (xs : List Int) (b : Bool) (e : Ending) (w' : World) : Prop := ∃ A c, e = .returned (.tuple #[.slice A xs.length c, .bool b]) ∧ Own w.heap.size w' (.slice A xs.length c) xs ∧ Below w.heap.size w w'
theorem turnI_own {w wr : World} {xs : List Int} {b : Bool} {A : Option Addr} {n c : Nat} (ho : Own w.heap.size wr (.slice A n c) xs) (hb : Below w.heap.size w wr) (hn : n = xs.length) : TurnI w xs b (.returned (.tuple #[.slice A n c, .bool b])) wr := by
  subst hn
  exact ⟨A, c, rfl, ho, hb⟩

set_option maxHeartbeats 1000000 in
theorem sTurnedOf_c (A : Option Addr) (c : Nat) (f : List Int) (w : World) (hR : RdA w A f) (hn : f.length ≤ 1048577) :
    Calls Try.prog 31 #[.slice A f.length c] w (TurnI w (turnedL f) (turnedB f)) := by
  have o0 := own_empty w
  have b0 : Below w.heap.size w (w.alloc (.cells #[] 3)) := (Below.refl _ _).alloc (Nat.le_refl _) _
  have c1 := fun W (hb : Below w.heap.size w W) => sMapOk_c A c f W (hR.below hb) hn
  by_cases hf : mapOkB f = true
  · rw [hf] at c1
    have hF : ∀ t, fromL f t = ints (frN f t f.length) := fun t => if_pos hf
    have c2 := fun (t : Int) W (hb : Below w.heap.size w W) => sFromOf_c A c f t W (hR.below hb) hn
    have HG := hid (good_of hf)
    have h7 := (good_of hf).1.2
    have h1 := (good_of hf).1.1
    have C1 := hid c1
    have C2 := hid c2
    have HF := hid hF
    clear hf c1 c2 hF
    go_enter Try.func31, Try.ntmps31
    go_wp2_with fail
    go_loopw [4, 5] (fun v i wr => ∃ k : Nat, k ≤ f.length ∧ i = .int .i64 k ∧ Own w.heap.size wr v (mk k (back f)) ∧ Below w.heap.size w wr ∧ Hid (∀ j, j < k → (frN f j f.length).length = 1)) (fun _ i _ => f.length - (intOf i).toNat)
    case atStart => exact ⟨0, Nat.zero_le _, rfl, o0, b0, hid (fun j hj => by omega)⟩
    case round =>
      clear o0 b0
      obtain ⟨k, hk, rfl, ho, hb, hall⟩ := hrel
      by_cases hlt : k < f.length
      · have K1 := hid (C1.out wr hb)
        have K2 := hid (C2.out k wr hb)
        rw [HF.out k] at K2
        have hsz := hb.size
        clear hR C1 C2
        have HM := hid (mk_succ k (back f))
        have hll := mk_len k (back f)
        have HLL := hid hll
        clear hll
        by_cases h1' : (frN f k f.length).length = 1
        · have e1 := fr_one HG.out hlt h1'
          have HA := hid (show ∀ j, j < k + 1 → (frN f j f.length).length = 1 from fun j hj => by
            rcases Nat.lt_succ_iff_lt_or_eq.1 hj with h | rfl
            · exact hall.out j h
            · exact h1')
          rw [e1] at K2
          clear e1 h1' hall
          generalize back f k = Y at *
          generalize mk k (back f) = M at *
          go_wp2_with fail
          refine K1.out.mono ?_; rintro e w' ⟨rfl, rfl⟩
          go_wp2_with fail
          refine K2.out.mono ?_; rintro e w2 ⟨A2, c2, rfl, o2, b2⟩
          obtain ⟨g2, d2, e2, _, _⟩ := o2.pos (by simp [ints])
          cases e2
          have hc := o2.cell (k := 0) (by simp [ints])
          rw [show nth (ints [Y]) 0 = (Y : Int) from rfl] at hc
          have hb2 := hb.trans (b2.mono hsz)
          have ho2 := ho.below (b2.mono (Nat.le_refl _))
          have hsz2 := hb2.size
          rw [show (ints [Y]).length = 1 from rfl]
          clear o2 b2 hb ho
          go_wp2_with (at_builtin; refine wpList_app1 _ rfl _ _ rfl w.heap.size _ M rfl (ho2.alloc _) w2.heap.size (Y : Int) rfl (cell_one1 _ _ _) (by have := HLL.out; omega) (by simp; omega) ?_; intro A3 c3 w3 o3 b3)
          have b3' : Below w.heap.size w w3 := (hb2.alloc hsz2 _).trans b3
          clear b3
          go_wp2_with fail
          go_roundw
          case rel => exact ⟨k + 1, by omega, by go_num, by rw [HM.out]; exact o3, b3', HA⟩
          case measure => simp [intOf]; omega
        · have HN := hid (show turnedB f = false by
            cases hB : turnedB f with
            | false => rfl
            | true =>
              have := fr_inj HG.out (turnedB_iff.1 hB).2 hlt
              exact absurd (by rw [this]; rfl) h1')
          have q1 : (((ints (frN f k f.length)).length : Int) == 1) = false := by rw [ints_len]; simp; omega
          generalize ints (frN f k f.length) = F at *
          generalize mk k (back f) = M at *
          clear h1' hall
          go_wp2_with fail
          refine K1.out.mono ?_; rintro e w' ⟨rfl, rfl⟩
          go_wp2_with fail
          refine K2.out.mono ?_; rintro e w2 ⟨A2, c2, rfl, o2, b2⟩
          have hb2 := hb.trans (b2.mono hsz)
          have o3 := (own_empty w2).mono hb2.size
          have b3 := hb2.alloc hb2.size (.cells #[] 3)
          clear o2 b2 hb ho hb2
          go_wp2_with fail
          go_ret2
          rw [HN.out, show turnedL f = [] by rw [turnedL, if_neg (by rw [HN.out]; simp)]]
          exact turnI_own o3 b3 rfl
      · obtain rfl : k = f.length := by omega
        obtain ⟨A4, c4, rfl, _⟩ := ho.form
        rw [mk_len] at *
        have hI := inj_of_ones HG.out hall.out
        have HN := hid (turnedB_iff.2 ⟨HG.out, hI⟩)
        have q0 : decide (0 < f.length) = true := decide_eq_true (by omega)
        clear hR C1 C2 hI hall
        go_wp2_with fail
        go_ret2
        rw [HN.out, show turnedL f = mk f.length (back f) by rw [turnedL, if_pos HN.out]]
        exact turnI_own ho hb (by rw [mk_len])
  · have HN := hid (show turnedB f = false by simp [turnedB, hf])
    rw [show mapOkB f = false by simpa using hf] at c1
    have K1 := hid (c1 _ b0)
    clear c1 hf hR
    by_cases h0 : 0 < f.length
    · go_enter Try.func31, Try.ntmps31
      go_wp2_with fail
      refine wp_loop_rounds 1 ?_
      rw [rounds_succ]
      go_wp2_with fail
      refine K1.out.mono ?_; rintro e w' ⟨rfl, rfl⟩
      go_wp2_with fail
      go_ret2
      rw [HN.out, show turnedL f = [] by rw [turnedL, if_neg (by rw [HN.out]; simp)]]
      exact turnI_own o0 b0 rfl
    · have q1 : decide ((0 : Int) < (f.length : Int)) = false := decide_eq_false (by omega)
      have q0 : decide (0 < f.length) = false := decide_eq_false (by omega)
      clear h0
      go_enter Try.func31, Try.ntmps31
      go_wp2_with fail
      refine wp_loop_rounds 1 ?_
      rw [rounds_succ]
      go_wp2_with fail
      go_ret2
      rw [HN.out, show turnedL f = [] by rw [turnedL, if_neg (by rw [HN.out]; simp)]]
      exact turnI_own o0 b0 rfl

end Go.Proofs.Ytkbfcaaihellfaa

/- Contracts of chapter 2: ways and tails. -/
namespace Go.Proofs.Ytkbfcaaihellfaa
open Go.RowKit
set_option linter.unusedVariables false

def wayL (f : List Int) (t : Int) : List Int := if thB f t = true then ints (way f t.toNat) else []
def tailV (f : List Int) (t : Int) : Int := if thB f t = true then (tail f t.toNat : Int) else -1
def loopV (f : List Int) (t : Int) : Int := if thB f t = true then (loop f t.toNat : Int) else -1
theorem th_no {f : List Int} {t : Int} (h : ¬ thB f t = true) : thB f t = false := by simpa using h
theorem th_nat {f : List Int} {t : Int} (h : thB f t = true) : ∃ n : Nat, t = (n : Int) ∧ n < f.length ∧ Good f := by
  obtain ⟨hf, h0, h1⟩ := thB_iff.1 h
  exact ⟨t.toNat, by omega, by omega, hf⟩
theorem wayL_yes {f : List Int} {n : Nat} (h : thB f n = true) : wayL f n = ints (way f n) := by rw [wayL, if_pos h]; rfl
theorem tailV_yes {f : List Int} {n : Nat} (h : thB f n = true) : tailV f n = (tail f n : Int) := by rw [tailV, if_pos h]; rfl
theorem loopV_yes {f : List Int} {n : Nat} (h : thB f n = true) : loopV f n = (loop f n : Int) := by rw [loopV, if_pos h]; rfl
theorem wayL_no {f : List Int} {t : Int} (h : ¬ thB f t = true) : wayL f t = [] := by rw [wayL, if_neg h]
theorem tailV_no {f : List Int} {t : Int} (h : ¬ thB f t = true) : tailV f t = -1 := by rw [tailV, if_neg h]
theorem loopV_no {f : List Int} {t : Int} (h : ¬ thB f t = true) : loopV f t = -1 := by rw [loopV, if_neg h]
theorem way_len (f : List Int) (n : Nat) : (ints (way f n)).length = rho f n := by rw [ints_len, way, walk_len]

theorem idxOf_ints (l : List Nat) (x : Nat) : (l.map Int.ofNat).idxOf (x : Int) = l.idxOf x := by
  induction l with
  | nil => rfl
  | cons a l ih =>
    rw [List.map_cons, List.idxOf_cons, List.idxOf_cons, ih]
    have : (Int.ofNat a == (x : Int)) = (a == x) := by
      rw [Bool.eq_iff_iff, beq_iff_eq, beq_iff_eq]
      exact ⟨fun h => by have h2 : (a : Int) = x := h; omega, fun h => by rw [h]; rfl⟩
    rw [this]

theorem iWayFrom_c (A : Option Addr) (c : Nat) (f : List Int) (t : Int) (w : World) (hR : RdA w A f) (hn : f.length ≤ 1048577) :
    Calls Try.prog 91 #[.slice A f.length c, .int .i64 t] w (RetI w (wayL f t)) := by
  have c1 := thingOk_c A c f t w hR hn
  by_cases h : thB f t = true
  · obtain ⟨n, rfl, hlt, hf⟩ := th_nat h
    have c2 := walked_c A c f n w hR hf hlt
    have HE := hid (wayL_yes h)
    rw [h] at c1
    clear h hR hf
    go_enter Try.func91, Try.ntmps91
    go_wp2_with fail
    refine c1.mono ?_; rintro e w' ⟨rfl, rfl⟩
    go_wp2_with fail
    refine c2.mono ?_; rintro e w' ⟨B, d, rfl, ho, hb⟩
    go_wp2_with fail
    go_ret
    rw [HE.out]
    exact retI_own ho hb
  · have HE := hid (wayL_no h)
    rw [th_no h] at c1
    clear h hR
    go_enter Try.func91, Try.ntmps91
    go_wp2_with fail
    refine c1.mono ?_; rintro e w' ⟨rfl, rfl⟩
    go_wp2_with fail
    go_ret
    rw [HE.out]
    exact (RetN.nil w).ret

theorem iTailOf_c (A : Option Addr) (c : Nat) (f : List Int) (t : Int) (w : World) (hR : RdA w A f) (hn : f.length ≤ 1048577) :
    Calls Try.prog 50 #[.slice A f.length c, .int .i64 t] w fun e w' => e = .returned (.int .i64 (tailV f t)) ∧ Below w.heap.size w w' := by
  have c1 := thingOk_c A c f t w hR hn
  by_cases h : thB f t = true
  · obtain ⟨n, rfl, hlt, hf⟩ := th_nat h
    have c2 := walked_c A c f n w hR hf hlt
    have HE := hid (tailV_yes h)
    have hl := rho_le hf hlt
    have h7 := hf.1.2
    have HM := hid (show (it f (rho f n) n : Int) ∈ ints (way f n) from by simp only [ints, List.mem_map]; exact ⟨_, rho_back hf hlt, rfl⟩)
    have HI := hid (show ((ints (way f n)).idxOf (it f (rho f n) n : Int)) = tail f n from by
      rw [tail, ints]
      exact idxOf_ints _ _)
    have HW := hid (way_len f n)
    rw [h] at c1
    clear h hR hf
    go_enter Try.func50, Try.ntmps50
    go_wp2_with fail
    refine c1.mono ?_; rintro e w' ⟨rfl, rfl⟩
    go_wp2_with fail
    refine c2.mono ?_; rintro e w' ⟨B, d, rfl, ho, hb⟩
    have c3 := index_c B d _ _ w' ho.rd (by rw [HW.out]; omega) HM.out
    rw [HI.out, HW.out] at c3
    go_wp2_with fail
    refine c3.mono ?_; rintro e w' ⟨rfl, rfl⟩
    go_wp2_with fail
    go_ret
    exact ⟨ret_int HE.out.symm, hb⟩
  · have HE := hid (tailV_no h)
    rw [th_no h] at c1
    clear h hR
    go_enter Try.func50, Try.ntmps50
    go_wp2_with fail
    refine c1.mono ?_; rintro e w' ⟨rfl, rfl⟩
    go_wp2_with fail
    go_ret
    exact ⟨ret_int HE.out.symm, Below.refl _ _⟩


theorem iOnLoop_c (A : Option Addr) (c : Nat) (f : List Int) (t : Int) (w : World) (hR : RdA w A f) (hn : f.length ≤ 1048577) :
    Calls Try.prog 27 #[.slice A f.length c, .int .i64 t] w fun e w' => e = .returned (.bool (tailV f t == 0)) ∧ Below w.heap.size w w' := by
  have c1 := iTailOf_c A c f t w hR hn
  clear hR
  generalize tailV f t = T at *
  go_enter Try.func27, Try.ntmps27
  go_wp2_with fail
  refine c1.mono ?_; rintro e w' ⟨rfl, hb⟩
  go_wp2_with fail
  go_ret
  exact ⟨rfl, hb⟩

theorem mask_shr (l : List Nat) (x : Nat) : (Int.tmod ((mask l : Int) / 2 ^ x) 2 == 0) = !decide (x ∈ l) := by
  have e1 : ((mask l : Int) / 2 ^ x) = ((mask l / 2 ^ x : Nat) : Int) := by
    rw [Int.natCast_ediv, Int.natCast_pow]; rfl
  have e2 := mask_bit l x
  rw [Nat.testBit_eq_decide_div_mod_eq] at e2
  rw [e1, ← e2]
  generalize mask l / 2 ^ x = m
  have e3 : Int.tmod (m : Int) 2 = ((m % 2 : Nat) : Int) := by
    rw [Int.tmod_eq_emod_of_nonneg (by omega)]; omega
  rw [e3]
  have : m % 2 = 0 ∨ m % 2 = 1 := by omega
  rcases this with h | h <;> rw [h] <;> rfl
theorem walk_back_iff {f : List Int} (hf : Good f) {n : Nat} (hn : n < f.length) {k : Nat} (hk : k ≤ rho f n) : decide (it f k n ∈ walk f n k) = decide (k = rho f n) := decide_eq_decide.2 (rho_first hf hn hk)

set_option maxRecDepth 20000 in
set_option maxHeartbeats 1000000 in
theorem sWayFrom_c (A : Option Addr) (c : Nat) (f : List Int) (t : Int) (w : World) (hR : RdA w A f) (hn : f.length ≤ 1048577) :
    Calls Try.prog 94 #[.slice A f.length c, .int .i64 t] w (RetI w (wayL f t)) := by
  have o0 := own_empty w
  have b0 : Below w.heap.size w (w.alloc (.cells #[] 3)) := (Below.refl _ _).alloc (Nat.le_refl _) _
  have c1 := sMapOk_c A c f _ (hR.below b0) hn
  by_cases h : thB f t = true
  · obtain ⟨n, rfl, hlt, hf⟩ := th_nat h
    rw [ok_of hf] at c1
    have HE := hid (wayL_yes h)
    have c3 := l1In_t n 0 ((f.length : Int) - 1) (w.alloc (.cells #[] 3)) (by omega)
    have hl := rho_le hf hlt
    have hrp := rho_pos hf hlt
    have h7 := hf.1.2
    have HF := hid hf
    clear h hf
    go_enter Try.func94, Try.ntmps94
    go_wp2_with fail
    refine c1.mono ?_; rintro e w' ⟨rfl, rfl⟩
    go_wp2_with fail
    refine c3.mono ?_; rintro e w' ⟨rfl, rfl⟩
    go_wp2_with fail
    clear c1 c3
    go_loopw [5, 6, 7] (fun v s i wr => ∃ k : Nat, k ≤ rho f n ∧ i = .int .i64 (it f k n) ∧ s = .int .i64 (mask (walk f n k)) ∧ Own w.heap.size wr v (ints (walk f n k)) ∧ Below w.heap.size w wr) (fun v _ _ _ => 8 - lenOf v)
    case atStart => exact ⟨0, Nat.zero_le _, rfl, rfl, o0, b0⟩
    case round =>
      clear o0 b0
      obtain ⟨k, hk, rfl, rfl, ho, hb⟩ := hrel
      have hit := HF.out.it_lt hlt k
      have q := mask_shr (walk f n k) (it f k n)
      rw [walk_back_iff HF.out hlt hk] at q
      have HI := hid (ints_walk f n k)
      have HL := hid (ints_walk_len f n k)
      have hsz := hb.size
      by_cases hkr : k = rho f n
      · subst hkr
        rw [decide_eq_true rfl, Bool.not_true] at q
        have HW := hid (show ints (walk f n (rho f n)) = wayL f n from HE.out.symm)
        rw [HW.out] at ho
        clear hR HI HL HE HF HW
        obtain ⟨A4, c4, rfl, _⟩ := ho.form
        generalize mask (walk f n (rho f n)) = M at *
        generalize it f (rho f n) n = X at *
        generalize wayL f n = W at *
        go_wp2_with fail
        go_ret
        exact retI_own ho hb
      · rw [decide_eq_false hkr, Bool.not_false] at q
        have q1 := mask_or (l := walk f n k) (x := it f k n) (mem_walk_lt HF.out hlt k) (by omega)
        rw [← walk_succ] at q1
        have HX := hid (show nth f (it f k n) = (it f (k + 1) n : Int) from HF.out.nth_ap hit)
        have HR := hid hR
        obtain ⟨ad, rfl, -⟩ := HR.out _ hit
        clear hR HE HF
        generalize hM' : mask (walk f n (k + 1)) = M' at *
        have HM := hid hM'
        generalize hY : it f (k + 1) n = Y at *
        have HY := hid hY
        clear hM' hY
        generalize mask (walk f n k) = M at *
        generalize it f k n = X at *
        go_wp2_with (at_builtin; refine wpList_app1 _ rfl _ _ rfl w.heap.size _ (ints (walk f n k)) rfl (ho.alloc _) wr.heap.size (X : Int) rfl (cell_one1 _ _ _) (by have := HL.out; omega) (by simp <;> omega) ?_; intro A3 c3 w3 o3 b3; have b3' : Below w.heap.size w w3 := (hb.alloc hsz _).trans b3; obtain ⟨ad', ee, hc⟩ := (HR.out.below b3') X hit; rw [HX.out] at hc; cases ee)
        rw [← HI.out] at o3
        obtain ⟨A0, c0, rfl, -⟩ := ho.form
        go_roundw
        case rel => exact ⟨k + 1, by omega, by rw [HY.out], by rw [HM.out], o3, b3'⟩
        case measure => simp [lenOf, ints_walk_len]; omega
  · have HE := hid (wayL_no h)
    rw [thB] at h
    by_cases hf : mapOkB f = true
    · rw [hf] at c1 h
      have c3 := l1In_f t 0 ((f.length : Int) - 1) (w.alloc (.cells #[] 3)) (by rw [Bool.true_and, decide_eq_true_eq] at h; omega)
      have h1 := (good_of hf).1
      clear h hf hR
      go_enter Try.func94, Try.ntmps94
      go_wp2_with fail
      refine c1.mono ?_; rintro e w' ⟨rfl, rfl⟩
      go_wp2_with fail
      refine c3.mono ?_; rintro e w' ⟨rfl, rfl⟩
      go_wp2_with fail
      go_ret
      rw [HE.out]
      exact retI_own o0 b0
    · rw [show mapOkB f = false by simpa using hf] at c1
      clear h hf hR
      go_enter Try.func94, Try.ntmps94
      go_wp2_with fail
      refine c1.mono ?_; rintro e w' ⟨rfl, rfl⟩
      go_wp2_with fail
      go_ret
      rw [HE.out]
      exact retI_own o0 b0

end Go.Proofs.Ytkbfcaaihellfaa

/- Plain law: roots go with the map, and have the same things on loops. No program in sight. -/
namespace Go.Proofs.Ytkbfcaaihellfaa
set_option linter.unusedVariables false

def rootChk (n : Nat) (g : List Int) : Bool := withB g (behindL g g) && (List.range n).all fun j => (tailV g (j : Int) == 0) == (tailV (behindL g g) (j : Int) == 0)
theorem roots_chk : ∀ n, n < 5 → (allK n n).all (fun g => n == 0 || rootChk n g) = true := by decide +kernel
theorem roots_law {f g : List Int} (h : g ∈ rootsV f) : withB g f = true ∧ ∀ j : Nat, j < f.length → (tailV g (j : Int) == 0) = (tailV f (j : Int) == 0) := by
  rw [← rootsS_eq] at h
  unfold rootsS at h
  split at h
  · rename_i hc
    obtain ⟨h1, h2⟩ := List.mem_filter.1 h
    have he := of_decide_eq_true h2
    have hn := (mapOkB_elim hc.1).1.1
    have := List.all_eq_true.1 (roots_chk f.length (by omega)) g h1
    rw [Bool.or_eq_true] at this
    rcases this with h3 | h3
    · have := eq_of_beq h3; omega
    · unfold rootChk at h3
      rw [he, Bool.and_eq_true, List.all_eq_true] at h3
      exact ⟨h3.1, fun j hj => by simpa using h3.2 j (List.mem_range.2 hj)⟩
  · cases h
end Go.Proofs.Ytkbfcaaihellfaa
