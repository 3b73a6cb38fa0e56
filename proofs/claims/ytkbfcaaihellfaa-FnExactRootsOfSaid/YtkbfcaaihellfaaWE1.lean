/- Steps on the way to the law; each part says what it proves. -/
import Derived.Test.YtkbfcaaihellfaaW5
import Derived.Test.YtkbfcaaihellfaaW4
import Derived.Test.YtkbfcaaihellfaaU23

set_option linter.unusedSimpArgs false

/- Contracts: rows of rows compared, marked, looked at. -/
namespace Go.Proofs.Ytkbfcaaihellfaa
open Go.RowKit
set_option linter.unusedVariables false

set_option maxHeartbeats 2000000 in
theorem eqIntSS_c (A B : Option Addr) (c d : Nat) (xss yss : List (List Int)) (w : World) (hR : RdRR w A xss) (hS : RdRR w B yss) (hn : xss.length ≤ 1048577) (hm : yss.length ≤ 1048577) (hr : ∀ k, k < xss.length → (gl xss k).length ≤ 1048577) (hs : ∀ k, k < yss.length → (gl yss k).length ≤ 1048577) :
    Calls Try.prog 12 #[.slice A xss.length c, .slice B yss.length d] w fun e w' => e = .returned (.bool (decide (xss = yss))) ∧ Below w.heap.size w w' := by
  by_cases hl : xss.length = yss.length
  · have hl' : ((xss.length : Int) == (yss.length : Int)) = true := by simp [hl]
    have HL := hid hl
    have e1 : yss.length = xss.length := hl.symm
    rw [e1] at hl' hm ⊢
    clear e1 hl
    have HR := hid hr
    have HS := hid hs
    clear hr hs
    go_enter Try.func12, Try.ntmps12
    go_wp2_with fail
    go_loopw [5] (fun i wr => ∃ k : Nat, k ≤ xss.length ∧ i = .int .i64 k ∧ Hid (xss.take k = yss.take k) ∧ Below w.heap.size w wr) (fun i _ => xss.length - (intOf i).toNat)
    case atStart => exact ⟨0, Nat.zero_le _, rfl, rfl, Below.refl _ _⟩
    case round =>
      obtain ⟨k, hk, rfl, HT, hb⟩ := hrel
      by_cases hlt : k < xss.length
      · obtain ⟨ad, D, d1, rfl, hc, hrd⟩ := (hR.below hb) k hlt
        obtain ⟨bd, E, d2, rfl, hc2, hrd2⟩ := (hS.below hb) k (by have := HL.out; omega)
        have C := hid (fun W (h : Below wr.heap.size wr W) => eqIntS_c D E d1 d2 (gl xss k) (gl yss k) W (hrd.below h) (hrd2.below h) (HR.out k hlt) (HS.out k (by have := HL.out; omega)))
        have HB := hid hb
        clear hR hS hrd hrd2 hb
        by_cases he : gl xss k = gl yss k
        · have HE := hid (rows_step HL.out hlt HT.out he)
          rw [decide_eq_true he] at C
          clear he
          generalize (gl xss k).length = n1 at *
          generalize (gl yss k).length = n2 at *
          go_wp2_with fail
          go_region_held3 (fun w' => Below wr.heap.size wr w' ∧ w'.cell? (ad.add k) = some (.slice D n1 d1) ∧ w'.cell? (bd.add k) = some (.slice E n2 d2))
            (first | exact ⟨(Below.refl _ _).drew, hc, hc2⟩ | (go_split_ands; exact keepR (by assumption) (by assumption) (by assumption) hbN))
            ((go_at_call 13; refine (C.out _ (by first | assumption | exact (Below.refl _ _).drew | exact And.left (by assumption))).mono ?_; rintro e w1 ⟨rfl, hbN⟩))
          have hb2 := HB.out.trans (Below.mono (And.left (by assumption)) HB.out.size)
          go_wp2_with fail
          go_roundw
          case rel => exact ⟨k + 1, by omega, by go_num, HE, hb2⟩
          case measure => simp [intOf]; omega
        · have HE := hid (rows_ne he)
          rw [decide_eq_false he] at C
          clear he
          generalize (gl xss k).length = n1 at *
          generalize (gl yss k).length = n2 at *
          go_wp2_with fail
          go_region_held3 (fun w' => Below wr.heap.size wr w' ∧ w'.cell? (ad.add k) = some (.slice D n1 d1) ∧ w'.cell? (bd.add k) = some (.slice E n2 d2))
            (first | exact ⟨(Below.refl _ _).drew, hc, hc2⟩ | (go_split_ands; exact keepR (by assumption) (by assumption) (by assumption) hbN))
            ((go_at_call 13; refine (C.out _ (by first | assumption | exact (Below.refl _ _).drew | exact And.left (by assumption))).mono ?_; rintro e w1 ⟨rfl, hbN⟩))
          have hb2 := HB.out.trans (Below.mono (And.left (by assumption)) HB.out.size)
          go_wp2_with fail
          go_ret
          exact ⟨ret_bool (by simp [HE.out]), hb2⟩
      · obtain rfl : k = xss.length := by omega
        go_wp2_with fail
        go_ret
        refine ⟨ret_bool ?_, hb⟩
        have := HT.out
        rw [List.take_length, HL.out, List.take_length] at this
        simp [this]
  · have hl' : ((xss.length : Int) == (yss.length : Int)) = false := by simp; omega
    have HL := hid hl
    clear hl
    go_enter Try.func12, Try.ntmps12
    go_wp2_with fail
    go_ret
    exact ⟨ret_bool (by simp; intro e; exact HL.out (by rw [e])), Below.refl _ _⟩
end Go.Proofs.Ytkbfcaaihellfaa

/- Contracts: rows of rows marked, and looked at. -/
namespace Go.Proofs.Ytkbfcaaihellfaa
open Go.RowKit
set_option linter.unusedVariables false

/-- the rows xss, each on a block of its own, r k, told by the row A -/
structure RowsAt (w : World) (A : Option Addr) (r d : Nat → Nat) (xss : List (List Int)) : Prop where
  row : ∀ k, k < xss.length → ∃ ad, A = some ad ∧ w.cell? (ad.add k) = some (.slice (some ⟨r k, 0, none⟩) (gl xss k).length (d k)) ∧ Own 0 w (.slice (some ⟨r k, 0, none⟩) (gl xss k).length (d k)) (gl xss k)
  ne : ∀ k j, k < xss.length → j < xss.length → k ≠ j → r k ≠ r j
  out : ∀ k ad, k < xss.length → A = some ad → r k ≠ ad.block
theorem RowsAt.rd {w : World} {A : Option Addr} {r d : Nat → Nat} {xss : List (List Int)} (h : RowsAt w A r d xss) : RdRR w A xss := fun k hk => by
  obtain ⟨ad, e, h1, h2⟩ := h.row k hk
  exact ⟨ad, _, _, e, h1, h2.rd⟩
/-- a world in which the same blocks stand -/
theorem RowsAt.of {w w' : World} {A : Option Addr} {r d : Nat → Nat} {xss : List (List Int)} (h : RowsAt w A r d xss) (ha : ∀ ad, A = some ad → 0 < xss.length → w'.heap[ad.block]? = w.heap[ad.block]?) (hr : ∀ k, k < xss.length → w'.heap[r k]? = w.heap[r k]?) : RowsAt w' A r d xss :=
  ⟨fun k hk => by
    obtain ⟨ad, e, h1, h2⟩ := h.row k hk
    refine ⟨ad, e, ?_, h2.1, ?_⟩
    · rw [← h1]; simp only [World.cell?, block_of_add, ha ad e (Nat.lt_of_le_of_lt (Nat.zero_le _) hk)]
    · rcases h2.2 with h3 | ⟨g, cap, cur, hv, hg, h4, h5⟩
      · exact .inl h3
      · refine .inr ⟨g, cap, cur, hv, hg, ?_, h5⟩
        cases hv
        rw [hr k hk]; exact h4, h.ne, h.out⟩
def marks (k0 : Int) (n : Nat) (xss : List (List Int)) (k : Nat) : List (List Int) := (List.range xss.length).map fun j => if j < k then upFrom (k0 + ((j * n : Nat) : Int)) n else gl xss j
theorem marks_len (k0 : Int) (n : Nat) (xss : List (List Int)) (k : Nat) : (marks k0 n xss k).length = xss.length := by simp [marks]
theorem gl_marks (k0 : Int) (n : Nat) (xss : List (List Int)) (k : Nat) {j : Nat} (hj : j < xss.length) : gl (marks k0 n xss k) j = if j < k then upFrom (k0 + ((j * n : Nat) : Int)) n else gl xss j := by
  simp [gl, marks, hj]
theorem marks_zero (k0 : Int) (n : Nat) (xss : List (List Int)) : marks k0 n xss 0 = xss := by
  refine List.ext_getElem (marks_len _ _ _ _) fun j h1 h2 => ?_
  have := gl_marks k0 n xss 0 h2
  simp only [Nat.not_lt_zero, if_false] at this
  simp only [gl, List.getD_eq_getElem?_getD, List.getElem?_eq_getElem h1, List.getElem?_eq_getElem h2, Option.getD_some] at this
  exact this
/-- what marking turns: the rows' own blocks, nothing else -/
structure Mtr (r : Nat → Nat) (n : Nat) (w w' : World) : Prop where
  os : w'.os = w.os
  tape : w'.tape = w.tape
  output : w'.output = w.output
  size : w'.heap.size = w.heap.size
  block : ∀ b, (∀ k, k < n → b ≠ r k) → w'.heap[b]? = w.heap[b]?
theorem Mtr.refl (r : Nat → Nat) (n : Nat) (w : World) : Mtr r n w w := ⟨rfl, rfl, rfl, rfl, fun _ _ => rfl⟩
theorem grown_block {w w' : World} {g b : Nat} (hg : w.grownBy w' (some g)) (hz : w'.heap.size = w.heap.size) (hne : b ≠ g) : w'.heap[b]? = w.heap[b]? := by
  rcases Nat.lt_or_ge b w.heap.size with h | h
  · exact hg.block b h (fun e => hne (Option.some.inj e))
  · rw [Array.getElem?_eq_none h, Array.getElem?_eq_none (by omega)]
/-- row k is marked -/
theorem RowsAt.mark {w w' : World} {A : Option Addr} {r d : Nat → Nat} {xss : List (List Int)} {n k : Nat} {k0 : Int} (h : RowsAt w A r d (marks k0 n xss k)) (hk : k < xss.length) (hn : (gl xss k).length = n)
    (ho : Own 0 w' (.slice (some ⟨r k, 0, none⟩) n (d k)) (upFrom (k0 + ((k * n : Nat) : Int)) n)) (hg : w.grownBy w' (some (r k))) (hz : w'.heap.size = w.heap.size) : RowsAt w' A r d (marks k0 n xss (k + 1)) := by
  refine ⟨fun j hj => ?_, fun i j hi hj => ?_, fun j ad hj => ?_⟩
  · rw [marks_len] at hj
    obtain ⟨ad, e, h1, h2⟩ := h.row j (by rw [marks_len]; exact hj)
    have hout := h.out k ad (by rw [marks_len]; exact hk) e
    refine ⟨ad, e, ?_, ?_⟩
    · have hb : w'.heap[ad.block]? = w.heap[ad.block]? := grown_block hg hz (fun e => hout e.symm)
      have h1' : w'.cell? (ad.add j) = w.cell? (ad.add j) := by simp only [World.cell?, block_of_add, hb]
      rw [h1', h1, gl_marks _ _ _ _ hj, gl_marks _ _ _ _ hj]
      by_cases hjk : j = k
      · subst hjk
        rw [if_neg (by omega), if_pos (by omega), hn, upFrom_len]
      · by_cases hlt : j < k
        · rw [if_pos hlt, if_pos (by omega)]
        · rw [if_neg hlt, if_neg (by omega)]
    · rw [gl_marks _ _ _ _ hj] at h2 ⊢
      by_cases hjk : j = k
      · subst hjk
        rw [if_pos (by omega), upFrom_len]
        exact ho
      · have e2 : (if j < k + 1 then upFrom (k0 + ((j * n : Nat) : Int)) n else gl xss j) = if j < k then upFrom (k0 + ((j * n : Nat) : Int)) n else gl xss j := by
          by_cases hlt : j < k
          · rw [if_pos hlt, if_pos (by omega)]
          · rw [if_neg hlt, if_neg (by omega)]
        rw [e2]
        exact h2.kept hg (.inr fun e => h.ne j k (by rw [marks_len]; exact hj) (by rw [marks_len]; exact hk) hjk (Option.some.inj e))
  · rw [marks_len] at hi hj
    exact h.ne i j (by rw [marks_len]; exact hi) (by rw [marks_len]; exact hj)
  · rw [marks_len] at hj
    exact h.out j ad (by rw [marks_len]; exact hj)
theorem Mtr.snoc {r : Nat → Nat} {n k : Nat} {w w1 w2 : World} (h : Mtr r n w w1) (hk : k < n) (hg : w1.grownBy w2 (some (r k))) (hz : w2.heap.size = w1.heap.size) : Mtr r n w w2 :=
  ⟨hg.os.trans h.os, hg.tape.trans h.tape, hg.output.trans h.output, hz.trans h.size, fun b hb => (grown_block hg hz (hb k hk)).trans (h.block b hb)⟩

set_option maxHeartbeats 1000000 in
theorem markIntSS_c (A : Option Addr) (c n : Nat) (r d : Nat → Nat) (xss : List (List Int)) (k0 : Int) (w : World) (h : RowsAt w A r d xss) (hn : ∀ k, k < xss.length → (gl xss k).length = n) (hL : xss.length ≤ 1000) (h4 : n ≤ 4) (h0 : 0 ≤ k0) (h1 : k0 ≤ 1000) :
    Calls Try.prog 15 #[.slice A xss.length c, .int .i64 k0] w fun e w' => e = .returned (.int .i64 (k0 + ((xss.length * n : Nat) : Int))) ∧ RowsAt w' A r d (marks k0 n xss xss.length) ∧ Mtr r xss.length w w' := by
  have hN := hid hn
  rw [← marks_zero k0 n xss] at h
  clear hn
  go_enter Try.func15, Try.ntmps15
  go_wp2_with fail
  go_loopw [1, 5] (fun s i wr => ∃ k : Nat, k ≤ xss.length ∧ i = .int .i64 k ∧ s = .int .i64 (k0 + ((k * n : Nat) : Int)) ∧ RowsAt wr A r d (marks k0 n xss k) ∧ Mtr r xss.length w wr) (fun _ i _ => xss.length - (intOf i).toNat)
  case atStart => exact ⟨0, Nat.zero_le _, rfl, by simp, h, Mtr.refl _ _ _⟩
  case round =>
    clear h
    obtain ⟨k, hk, rfl, rfl, h, hm⟩ := hrel
    have hb := Nat.mul_le_mul (show k ≤ 1000 by omega) h4
    by_cases hlt : k < xss.length
    · obtain ⟨ad, rfl, hc, ho⟩ := h.row k (by rw [marks_len]; exact hlt)
      rw [gl_marks _ _ _ _ hlt, if_neg (by omega)] at hc ho
      have hlen := hN.out k hlt
      have C := hid (markIntS_c 0 (r k) (d k) (gl xss k) (k0 + ((k * n : Nat) : Int)) wr ho (by omega) (by omega) (by omega))
      rw [hlen] at C hc
      have HH := hid h
      have HM := hid hm
      have hs := hid (show k0 + ((k * n : Nat) : Int) + (n : Int) = k0 + (((k + 1) * n : Nat) : Int) by rw [Nat.succ_mul]; omega)
      have HL := hid hlen
      clear h hm ho hlen
      have HK := hid (fun (w' : World) (a1 : Own 0 w' (.slice (some ⟨r k, 0, none⟩) n (d k)) (upFrom (k0 + ((k * n : Nat) : Int)) n)) (a2 : wr.grownBy w' (some (r k))) (a3 : w'.heap.size = wr.heap.size) => HH.out.mark hlt HL.out a1 a2 a3)
      clear HH
      generalize k0 + ((k * n : Nat) : Int) = s0 at *
      go_wp2_with fail
      refine C.out.mono ?_; rintro e w1 ⟨rfl, ho1, hg1, hz1⟩
      have HS := hid (And.intro ho1 (And.intro hg1 hz1))
      clear ho1 hg1 hz1
      go_wp2_with fail
      go_roundw
      case rel => exact ⟨k + 1, by omega, by go_num, congrArg (Value.int .i64) hs.out, HK.out _ HS.out.1 HS.out.2.1 HS.out.2.2, HM.out.snoc hlt HS.out.2.1 HS.out.2.2⟩
      case measure => simp [intOf]; omega
    · obtain rfl : k = xss.length := by omega
      go_wp2_with fail
      go_ret
      exact ⟨rfl, h, hm⟩
set_option maxHeartbeats 1000000 in
theorem heldIntSS_c (A : Option Addr) (c n : Nat) (xss : List (List Int)) (k0 : Int) (w : World) (h : RdRR w A (marks k0 n xss xss.length)) (hL : xss.length ≤ 1000) (h4 : n ≤ 4) (h0 : 0 ≤ k0) (h1 : k0 ≤ 1000) :
    Calls Try.prog 16 #[.slice A xss.length c, .int .i64 k0] w fun e w' => e = .returned (.int .i64 (k0 + ((xss.length * n : Nat) : Int))) ∧ w = w' := by
  go_enter Try.func16, Try.ntmps16
  go_wp2_with fail
  go_loop [1, 5] (fun s i => ∃ k : Nat, k ≤ xss.length ∧ i = .int .i64 k ∧ s = .int .i64 (k0 + ((k * n : Nat) : Int))) (fun _ i => xss.length - (intOf i).toNat)
  case atStart => exact ⟨0, Nat.zero_le _, rfl, by simp⟩
  case round =>
    obtain ⟨k, hk, rfl, rfl⟩ := hrel
    have hb := Nat.mul_le_mul (show k ≤ 1000 by omega) h4
    by_cases hlt : k < xss.length
    · obtain ⟨ad, D, d, rfl, hc, ho⟩ := h k (by rw [marks_len]; exact hlt)
      rw [gl_marks _ _ _ _ hlt, if_pos hlt] at hc ho
      rw [upFrom_len] at hc
      have C := hid (heldIntS_c D d n (k0 + ((k * n : Nat) : Int)) w ho (by omega) (by omega) (by omega))
      have hs := hid (show k0 + ((k * n : Nat) : Int) + (n : Int) = k0 + (((k + 1) * n : Nat) : Int) by rw [Nat.succ_mul]; omega)
      have hnn : decide (k0 + ((k * n : Nat) : Int) + (n : Int) < 0) = false := by simp; omega
      clear h ho
      generalize k0 + ((k * n : Nat) : Int) = s0 at *
      go_wp2_with fail
      refine C.out.mono ?_; rintro e w1 ⟨rfl, rfl⟩
      go_wp2_with fail
      go_round
      case rel => exact ⟨k + 1, by omega, by go_num, congrArg (Value.int .i64) hs.out⟩
      case measure => simp [intOf]; omega
    · obtain rfl : k = xss.length := by omega
      clear h
      go_wp2_with fail
      go_ret
      exact ⟨rfl, rfl⟩
end Go.Proofs.Ytkbfcaaihellfaa

/- Rows that mapsThat hands back: each on a block of its own; reading that blocks below a bound tell; what a mark turns. -/
namespace Go.Proofs.Ytkbfcaaihellfaa
open Go.Conc Go.ConcN Go.RowKit
set_option linter.unusedVariables false
set_option linter.unusedSectionVars false

/-- read from blocks below n -/
def RdAn (n : Nat) (w : World) (A : Option Addr) (xs : List Int) : Prop := ∀ k, k < xs.length → ∃ ad, A = some ad ∧ w.cell? (ad.add k) = some (.int .i64 (nth xs k)) ∧ ad.block < n
def RdRn (n : Nat) (w : World) (A : Option Addr) (L : List (List Int)) : Prop := ∀ k, k < L.length → ∃ ad D d, A = some ad ∧ w.cell? (ad.add k) = some (.slice D (gl L k).length d) ∧ ad.block < n ∧ RdAn n w D (gl L k)
section
variable {n : Nat} {Sb : Nat → Prop} {v v' w : World} {A : Option Addr} {xs : List Int} {L : List (List Int)}
theorem RdAn.of (h : RdA w A xs) : RdAn w.heap.size w A xs := fun k hk => by
  obtain ⟨ad, e, hc⟩ := h k hk
  have := cell_lt hc
  rw [block_of_add] at this
  exact ⟨ad, e, hc, this⟩
theorem RdAn.rd (h : RdAn n w A xs) : RdA w A xs := fun k hk => let ⟨ad, e, hc, _⟩ := h k hk; ⟨ad, e, hc⟩
theorem RdAn.same (h : RdAn n v A xs) (hb : ∀ b, b < n → v'.heap[b]? = v.heap[b]?) : RdAn n v' A xs := fun k hk => by
  obtain ⟨ad, e, hc, hl⟩ := h k hk
  refine ⟨ad, e, ?_, hl⟩
  rw [← hc]
  simp only [World.cell?, block_of_add, hb _ hl]
theorem RdAn.ltr (hp : PR Sb v w) (h : RdAn n v A xs) (l : Ltr Sb v v') : RdAn n v' A xs := fun k hk => by
  obtain ⟨ad, e, hc, hl⟩ := h k hk
  have h1 := (hp.cell_some hc).1
  have h2 := cell_lt hc
  refine ⟨ad, e, ?_, hl⟩
  rw [← hc]
  simp only [World.cell?, l.block _ h2 h1]
theorem RdRn.of (h : RdRR w A L) : RdRn w.heap.size w A L := fun k hk => by
  obtain ⟨ad, D, d, e, hc, hr⟩ := h k hk
  have := cell_lt hc
  rw [block_of_add] at this
  exact ⟨ad, D, d, e, hc, this, .of hr⟩
theorem RdRn.rd (h : RdRn n w A L) : RdRR w A L := fun k hk => let ⟨ad, D, d, e, hc, _, hr⟩ := h k hk; ⟨ad, D, d, e, hc, hr.rd⟩
theorem RdRn.same (h : RdRn n v A L) (hb : ∀ b, b < n → v'.heap[b]? = v.heap[b]?) : RdRn n v' A L := fun k hk => by
  obtain ⟨ad, D, d, e, hc, hl, hr⟩ := h k hk
  refine ⟨ad, D, d, e, ?_, hl, hr.same hb⟩
  rw [← hc]
  simp only [World.cell?, block_of_add, hb _ hl]
theorem RdRn.ltr (hp : PR Sb v w) (h : RdRn n v A L) (l : Ltr Sb v v') : RdRn n v' A L := fun k hk => by
  obtain ⟨ad, D, d, e, hc, hl, hr⟩ := h k hk
  have h1 := (hp.cell_some hc).1
  have h2 := cell_lt hc
  refine ⟨ad, D, d, e, ?_, hl, hr.ltr hp l⟩
  rw [← hc]
  simp only [World.cell?, l.block _ h2 h1]
end
/-- only the blocks X are turned -/
structure Tch (X : Nat → Prop) (v v' : World) : Prop where
  os : v'.os = v.os
  output : v'.output = v.output
  size : v'.heap.size = v.heap.size
  block : ∀ b, ¬ X b → v'.heap[b]? = v.heap[b]?
theorem Inv.tch {Sb X : Nat → Prop} {W0 v w v' w' : World} (h : Inv Sb W0 v w) (l : Tch X v v') (hX : ∀ b, X b → W0.heap.size ≤ b) (hp : PR Sb v' w') (ht : w'.tape = w.tape) : Inv Sb W0 v' w' :=
  ⟨hp, ht.trans h.tape, l.os.trans h.os, l.output.trans h.output, by rw [l.size]; exact h.size, fun b hb => (l.block b fun hx => by have := hX b hx; omega).trans (h.block b hb), h.above⟩
theorem AllR.rowsAt {M : Nat → Prop} {n cp : Nat} {ad : Option Addr} {R : List (List Int)} {w : World} (h : AllR M (.slice ad R.length cp) R w) (hnd : R.Nodup) (hl : ∀ k, k < R.length → (gl R k).length = n) :
    ∃ r d, RowsAt w ad r d R ∧ (∀ k, k < R.length → M (r k)) ∧ ∀ a, ad = some a → 0 < R.length → M a.block := by
  have hown := allR_own (B := 0) h fun _ _ => Nat.zero_le _
  obtain ⟨vs, h1, h2, h3⟩ := h
  have hP : ∀ k : Nat, ∃ rd : Nat × Nat, k < R.length → M rd.1 ∧ (∃ g, ad = some ⟨g, 0, none⟩ ∧ rd.1 ≠ g) ∧ ∃ a, ad = some a ∧ w.cell? (a.add k) = some (.slice (some ⟨rd.1, 0, none⟩) (gl R k).length rd.2) ∧ Own 0 w (.slice (some ⟨rd.1, 0, none⟩) (gl R k).length rd.2) (gl R k) := by
    intro k
    by_cases hk : k < R.length
    · obtain ⟨r, o, u, a1, a2, a3, ⟨c, rfl, a4⟩, a5⟩ := h3 k (gl R k) (by simp [gl, hk])
      refine ⟨(r, c), fun _ => ?_⟩
      obtain ⟨g, D, d, e, _, hc, _⟩ := hown.at_ hk
      refine ⟨a2, ⟨g, e, fun e2 => ?_⟩, ⟨g, 0, none⟩, e, ?_, a4 w a3⟩
      · subst e
        have e4 : r = g := e2
        subst e4
        exact a5 rfl
      · rw [add_g]
        rcases h1.2 with ⟨e3, _⟩ | ⟨g', cap, cur, e3, hg, hh, hpre⟩
        · rw [e] at e3; cases e3
        · have hcell := World.ownsRow.cells (g := g) h1 (by rw [e]; rfl) k _ a1
          rwa [add_g] at hcell
    · exact ⟨(0, 0), fun h => absurd h hk⟩
  obtain ⟨f, hf⟩ := Classical.axiomOfChoice hP
  refine ⟨fun k => (f k).1, fun k => (f k).2, ⟨fun k hk => ?_, fun i j hi hj hne e => ?_, fun k a hk e => ?_⟩, fun k hk => (hf k hk).1, fun a e h0 => ?_⟩
  · obtain ⟨_, _, a, e, hc, ho⟩ := hf k hk
    exact ⟨a, e, hc, ho⟩
  · obtain ⟨_, _, a, e1, hc, ho⟩ := hf i hi
    obtain ⟨_, _, a', e2, hc', ho'⟩ := hf j hj
    replace e : (f i).1 = (f j).1 := e
    rw [e] at ho
    have hij : gl R i = gl R j := ext_nth (by rw [hl i hi, hl j hj]) fun k hk => by
      obtain ⟨b1, b2, b3⟩ := ho.rd k hk
      obtain ⟨c1, c2, c3⟩ := ho'.rd k (by rw [hl j hj, ← hl i hi]; exact hk)
      cases b2
      cases c2
      rw [b3] at c3
      injection c3 with c4
      injection c4
    have e3 : R[i] = R[j] := by simpa [gl, hi, hj] using hij
    exact hne ((List.getElem_inj hnd).1 e3)
  · obtain ⟨_, ⟨g, e1, hne⟩, _⟩ := hf k hk
    rw [e1] at e
    cases e
    exact hne
  · obtain ⟨_, ⟨g, e1, _⟩, _⟩ := hf 0 h0
    rw [e1] at e
    cases e
    exact h2 g (by rw [e1]; rfl)
end Go.Proofs.Ytkbfcaaihellfaa

/- Contracts of what the exact laws call, a goroutine alone on whatever schedule. -/
namespace Go.Proofs.Ytkbfcaaihellfaa
open Go.Conc Go.ConcN Go.RowKit
set_option linter.unusedVariables false
set_option linter.unusedSectionVars false

section
variable {Sb : Nat → Prop} {Post : Value → World → Prop} {v v' w w' W0 : World} {A B : Option Addr} {c d n : Nat} {f g xs : List Int} {L R M : List (List Int)} {k0 : Int}
theorem toIntS_la (hp : PR Sb v w) (hA : RdA v A xs) (hn : xs.length ≤ 1048576) : CLA Sb Post 10 #[.slice A xs.length c] w fun x v' => (∃ i : Option Addr × Nat, x = .slice i.1 xs.length i.2 ∧ Own v.heap.size v' (.slice i.1 xs.length i.2) xs) ∧ Ltr Sb v v' :=
  callsLA (by rfl) hp (fun τ => toIntS_c A c xs (v.tp τ 0) hA hn) fun τ e v' h => let ⟨B, d, e1, ho, hb⟩ := h; ⟨_, e1, ⟨(B, d), rfl, ho⟩, ltr_of_below hb⟩
theorem eqIntS_la (hp : PR Sb v w) (hA : RdA v A f) (hB : RdA v B f) (hn : f.length ≤ 1048577) : CLA Sb Post 13 #[.slice A f.length c, .slice B f.length d] w fun x v' => x = .bool true ∧ Ltr Sb v v' :=
  callsLA (by rfl) hp (fun τ => eqIntS_c A B c d f f (v.tp τ 0) hA hB hn hn) fun τ e v' h => ⟨_, h.1, by simp, ltr_of_below h.2⟩
theorem eqIntSS_la (hp : PR Sb v w) (hA : RdRR v A L) (hB : RdRR v B L) (hn : L.length ≤ 1048577) (hr : ∀ k, k < L.length → (gl L k).length ≤ 1048577) :
    CLA Sb Post 12 #[.slice A L.length c, .slice B L.length d] w fun x v' => x = .bool true ∧ Ltr Sb v v' :=
  callsLA (by rfl) hp (fun τ => eqIntSS_c A B c d L L (v.tp τ 0) hA hB hn hn hr hr) fun τ e v' h => ⟨_, h.1, by simp, ltr_of_below h.2⟩
theorem grown_tch {v v' : World} {τ : Nat → Question → Nat} {row : Option Nat} (hg : (v.tp τ 0).grownBy v' row) (hz : v'.heap.size = v.heap.size) : Tch (fun b => row = some b) v v' :=
  ⟨hg.os, hg.output, hz, fun b hb => by
    rcases Nat.lt_or_ge b v.heap.size with h | h
    · exact hg.block b h (fun e => hb e.symm)
    · rw [Array.getElem?_eq_none h, Array.getElem?_eq_none (by omega)]⟩
theorem markIntS_la {N : Nat} (hp : PR Sb v w) (ho : Own N v (.slice A xs.length c) xs) (hn : xs.length ≤ 1048577) (h0 : 0 ≤ k0) (h1 : k0 ≤ 1000000000) :
    CLA Sb Post 14 #[.slice A xs.length c, .int .i64 k0] w fun x v' => x = .int .i64 (k0 + xs.length) ∧ Tch (fun b => (Value.slice A xs.length c).ownBlock = some b) v v' :=
  callsLA (by rfl) hp (fun τ => markIntS_any N c A xs k0 (v.tp τ 0) ho hn h0 h1) fun τ e v' h => let ⟨e1, _, hg, hz⟩ := h; ⟨_, e1, rfl, grown_tch hg hz⟩
theorem markIntSS_la {r e : Nat → Nat} (hp : PR Sb v w) (h : RowsAt v A r e R) (hn : ∀ k, k < R.length → (gl R k).length = n) (hL : R.length ≤ 1000) (h4 : n ≤ 4) :
    CLA Sb Post 15 #[.slice A R.length c, .int .i64 1] w fun x v' => x = .int .i64 (1 + ((R.length * n : Nat) : Int)) ∧ RdRR v' A (marks 1 n R R.length) ∧ Tch (fun b => ∃ k, k < R.length ∧ b = r k) v v' :=
  callsLA (by rfl) hp (fun τ => markIntSS_c A c n r e R 1 (v.tp τ 0) ⟨h.row, h.ne, h.out⟩ hn hL h4 (by omega) (by omega)) fun τ e v' h => let ⟨e1, hr, hm⟩ := h; ⟨_, e1, rfl, hr.rd, hm.os, hm.output, hm.size, fun b hb => hm.block b fun k hk e => hb ⟨k, hk, e⟩⟩
theorem heldIntSS_la (hp : PR Sb v w) (h : RdRR v A (marks 1 n R R.length)) (hL : R.length ≤ 1000) (h4 : n ≤ 4) :
    CLA Sb Post 16 #[.slice A R.length c, .int .i64 1] w fun x v' => x = .int .i64 (1 + ((R.length * n : Nat) : Int)) ∧ Ltr Sb v v' :=
  callsLA (by rfl) hp (fun τ => heldIntSS_c A c n R 1 (v.tp τ 0) h hL h4 (by omega) (by omega)) fun τ e v' h => by
    obtain ⟨e1, rfl⟩ := h
    exact ⟨_, e1, rfl, rfl, rfl, Nat.le_refl _, fun _ _ _ => rfl⟩
theorem Own.same {N : Nat} {u : Value} (h : Own N v u xs) (hb : ∀ g, u.ownBlock = some g → v'.heap[g]? = v.heap[g]?) : Own N v' u xs := by
  refine ⟨h.1, ?_⟩
  rcases h.2 with h3 | ⟨g, cap, cur, hv, hg, h4, h5⟩
  · exact .inl h3
  · refine .inr ⟨g, cap, cur, hv, hg, ?_, h5⟩
    rw [hb g (by rw [hv]; rfl)]
    exact h4
/-- a number of cells that all rows have -/
theorem rows_n {L : List (List Int)} {m : Nat} (hm : m ≤ 4) (h : ∀ g ∈ L, g.length = m) : ∃ n, n ≤ 4 ∧ ∀ k, k < L.length → (gl L k).length = n := ⟨m, hm, fun k hk => h _ (glmem hk)⟩
end
end Go.Proofs.Ytkbfcaaihellfaa
