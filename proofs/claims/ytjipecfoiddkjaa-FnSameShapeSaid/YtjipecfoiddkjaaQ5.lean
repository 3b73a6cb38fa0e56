/- Contracts of chapter 1, the reference's: what leads to a thing; turned maps. -/
import Derived.Test.YtjipecfoiddkjaaQ4
namespace Go.Proofs.Ytjipecfoiddkjaa
open Go.RowKit
set_option linter.unusedVariables false

/-- of the first k things those that are led to t -/
def frN (f : List Int) (t : Int) (k : Nat) : List Nat := (List.range k).filter fun j => nth f j == t
def fromL (f : List Int) (t : Int) : List Int := if mapOkB f = true then ints (frN f t f.length) else []
theorem frN_yes {f : List Int} {t : Int} {k : Nat} (h : nth f k = t) : ints (frN f t (k + 1)) = ints (frN f t k) ++ [(k : Int)] := by
  rw [frN, List.range_succ, List.filter_append, show List.filter (fun j => nth f j == t) [k] = [k] by simp [h], ints_append]; rfl
theorem frN_no {f : List Int} {t : Int} {k : Nat} (h : nth f k ≠ t) : ints (frN f t (k + 1)) = ints (frN f t k) := by
  rw [frN, List.range_succ, List.filter_append, show List.filter (fun j => nth f j == t) [k] = [] by simp [h], List.append_nil]; rfl
theorem frN_len (f : List Int) (t : Int) (k : Nat) : (ints (frN f t k)).length ≤ k := by
  rw [ints_len, frN]
  exact Nat.le_trans (List.length_filter_le _ _) (by simp)
theorem mem_frN {f : List Int} {t : Int} {k x : Nat} : x ∈ frN f t k ↔ x < k ∧ nth f x = t := by simp [frN]
theorem frN_nodup (f : List Int) (t : Int) (k : Nat) : (frN f t k).Nodup := List.Nodup.sublist List.filter_sublist List.nodup_range

set_option maxHeartbeats 400000 in
theorem sFromOf_c (A : Option Addr) (c : Nat) (f : List Int) (t : Int) (w : World) (hR : RdA w A f) (hn : f.length ≤ 1048577) :
    Calls Try.prog 45 #[.slice A f.length c, .int .i64 t] w (RetI w (fromL f t)) := by
  have o0 := own_empty w
  have b0 : Below w.heap.size w (w.alloc (.cells #[] 3)) := (Below.refl _ _).alloc (Nat.le_refl _) _
  have c1 := fun W (hb : Below w.heap.size w W) => sMapOk_c A c f W (hR.below hb) hn
  by_cases hf : mapOkB f = true
  · rw [hf] at c1
    have HE := hid (show fromL f t = ints (frN f t f.length) from if_pos hf)
    have h7 := (good_of hf).1.2
    have C1 := hid c1
    clear hf c1
    go_enter Try.func45, Try.ntmps45
    go_wp2_with fail
    go_loopw [5, 6] (fun v i wr => ∃ k : Nat, k ≤ f.length ∧ i = .int .i64 k ∧ Own w.heap.size wr v (ints (frN f t k)) ∧ Below w.heap.size w wr) (fun _ i _ => f.length - (intOf i).toNat)
    case atStart => exact ⟨0, Nat.zero_le _, rfl, o0, b0⟩
    case round =>
      clear o0 b0
      obtain ⟨k, hk, rfl, ho, hb⟩ := hrel
      by_cases hlt : k < f.length
      · obtain ⟨ad, rfl, hc⟩ := (hR.below hb) k hlt
        have hll := frN_len f t k
        have HLL := hid hll
        have hsz := hb.size
        have K1 := hid (C1.out wr hb)
        clear hll hR C1
        by_cases hx : nth f k = t
        · have HM := hid (frN_yes hx)
          have q1 : (nth f k == t) = true := by simpa using hx
          clear hx
          generalize nth f k = X at *
          generalize ints (frN f t k) = M at *
          go_wp2_with fail
          refine K1.out.mono ?_; rintro e w' ⟨rfl, rfl⟩
          go_wp2_with (at_builtin; refine wpList_app1 _ rfl _ _ rfl w.heap.size _ M rfl (ho.alloc _) wr.heap.size (k : Int) rfl (cell_one1 _ _ _) (by have := HLL.out; omega) (by simp; omega) ?_; intro A3 c3 w3 o3 b3)
          have b3' : Below w.heap.size w w3 := (hb.alloc hsz _).trans b3
          clear b3 hb ho
          go_wp2_with fail
          go_roundw
          case rel => exact ⟨k + 1, by omega, by go_num, by rw [HM.out]; exact o3, b3'⟩
          case measure => simp [intOf]; omega
        · have HM := hid (frN_no hx)
          have q1 : (nth f k == t) = false := by simpa using hx
          clear hx
          generalize nth f k = X at *
          generalize ints (frN f t k) = M at *
          go_wp2_with fail
          refine K1.out.mono ?_; rintro e w' ⟨rfl, rfl⟩
          go_wp2_with fail
          go_roundw
          case rel => exact ⟨k + 1, by omega, by go_num, by rw [HM.out]; exact ho, hb⟩
          case measure => simp [intOf]; omega
      · obtain rfl : k = f.length := by omega
        obtain ⟨A4, c4, rfl, _⟩ := ho.form
        rw [← HE.out] at *
        clear hR C1
        go_wp2_with fail
        go_ret
        exact retI_own ho hb
  · have HE := hid (show fromL f t = [] from if_neg hf)
    rw [show mapOkB f = false by simpa using hf] at c1
    have K1 := hid (c1 _ b0)
    clear c1 hf hR
    by_cases h0 : 0 < f.length
    · go_enter Try.func45, Try.ntmps45
      go_wp2_with fail
      refine wp_loop_rounds 1 ?_
      rw [rounds_succ]
      go_wp2_with fail
      refine K1.out.mono ?_; rintro e w' ⟨rfl, rfl⟩
      go_wp2_with fail
      go_ret
      rw [HE.out]
      exact retI_own o0 b0
    · have q1 : decide ((0 : Int) < (f.length : Int)) = false := decide_eq_false (by omega)
      have q0 : decide (0 < f.length) = false := decide_eq_false (by omega)
      clear h0
      go_enter Try.func45, Try.ntmps45
      go_wp2_with fail
      refine wp_loop_rounds 1 ?_
      rw [rounds_succ]
      go_wp2_with fail
      go_ret
      rw [HE.out]
      exact retI_own o0 b0

theorem one_list {l : List Nat} (hd : l.Nodup) {h : Nat} (hm : h ∈ l) (ha : ∀ x ∈ l, x = h) : l = [h] := by
  cases l with
  | nil => simp at hm
  | cons a l =>
    obtain rfl := ha a (by simp)
    cases l with
    | nil => rfl
    | cons b l =>
      obtain rfl := ha b (by simp)
      simp at hd
theorem fr_inj {f : List Int} (hf : Good f) (hi : Inj f) {k : Nat} (hk : k < f.length) : frN f k f.length = [back f k] := by
  obtain ⟨h1, h2⟩ := back_spec hf hi hk
  refine one_list (frN_nodup _ _ _) (mem_frN.2 ⟨h1, by rw [hf.nth_ap h1, h2]⟩) fun x hx => ?_
  obtain ⟨hx1, hx2⟩ := mem_frN.1 hx
  refine hi x _ hx1 h1 ?_
  rw [hf.nth_ap hx1] at hx2
  omega
theorem fr_one {f : List Int} (hf : Good f) {k : Nat} (hk : k < f.length) (h1 : (frN f k f.length).length = 1) : frN f k f.length = [back f k] := by
  obtain ⟨h, e⟩ := List.length_eq_one_iff.1 h1
  rw [e]
  have hm : h ∈ frN f k f.length := by rw [e]; simp
  obtain ⟨h2, h3⟩ := mem_frN.1 hm
  rw [hf.nth_ap h2] at h3
  have hh : ap f h = k := by omega
  have hin : k ∈ (List.range f.length).map (ap f) := by simp; exact ⟨h, h2, hh⟩
  have hlt := List.idxOf_lt_length_of_mem hin
  have hat := List.getElem_idxOf hlt
  have hb : back f k ∈ frN f k f.length := by
    have hl : back f k < f.length := by simpa [back] using hlt
    refine mem_frN.2 ⟨hl, ?_⟩
    rw [hf.nth_ap hl]
    rw [List.getElem_map, List.getElem_range] at hat
    have : ap f (back f k) = k := hat
    omega
  rw [e] at hb
  simp at hb
  rw [hb]
theorem inj_of_ones {f : List Int} (hf : Good f) (h : ∀ k, k < f.length → (frN f k f.length).length = 1) : Inj f := by
  intro i j hi hj e
  have hk := hf.ap_lt hi
  have e1 := fr_one hf hk (h _ hk)
  have m1 : i ∈ frN f (ap f i) f.length := mem_frN.2 ⟨hi, hf.nth_ap hi⟩
  have m2 : j ∈ frN f (ap f i) f.length := mem_frN.2 ⟨hj, by rw [hf.nth_ap hj, e]⟩
  rw [e1] at m1 m2
  simp at m1 m2
  omega
/-- the same, no word of nil -/
def TurnI (w : World) (xs : List Int) (b : Bool) (e : Ending) (w' : World) : Prop := ∃ A c, e = .returned (.tuple #[.slice A xs.length c, .bool b]) ∧ Own w.heap.size w' (.slice A xs.length c) xs ∧ Below w.heap.size w w'
theorem turnI_own {w wr : World} {xs : List Int} {b : Bool} {A : Option Addr} {n c : Nat} (ho : Own w.heap.size wr (.slice A n c) xs) (hb : Below w.heap.size w wr) (hn : n = xs.length) : TurnI w xs b (.returned (.tuple #[.slice A n c, .bool b])) wr := by
  subst hn
  exact ⟨A, c, rfl, ho, hb⟩

set_option maxHeartbeats 1000000 in
theorem sTurnedOf_c (A : Option Addr) (c : Nat) (f : List Int) (w : World) (hR : RdA w A f) (hn : f.length ≤ 1048577) :
    Calls Try.prog 28 #[.slice A f.length c] w (TurnI w (turnedL f) (turnedB f)) := by
  have o0 := own_empty w
  have b0 : Below w.heap.size w (w.alloc (.cells #[] 3)) := (Below.refl _ _).alloc (Nat.le_refl _) _
  have c1 := fun W (hb : Below w.heap.size w W) => sMapOk_c A c f W (hR.below hb) hn
  by_cases hf : mapOkB f = true
  · rw [hf] at c1
    have hF : ∀ t, fromL f t = ints (frN f t f.length) := fun t => if_pos hf
    have c2 := fun (t : Int) W (hb : Below w.heap.size w W) => sFromOf_c A c f t W (hR.below hb) hn
    have HG := hid (good_of hf)
    have h7 := (good_of hf).1.2
    have h1 := (good_of hf).1.1
    have C1 := hid c1
    have C2 := hid c2
    have HF := hid hF
    clear hf c1 c2 hF
    go_enter Try.func28, Try.ntmps28
    go_wp2_with fail
    go_loopw [4, 5] (fun v i wr => ∃ k : Nat, k ≤ f.length ∧ i = .int .i64 k ∧ Own w.heap.size wr v (mk k (back f)) ∧ Below w.heap.size w wr ∧ Hid (∀ j, j < k → (frN f j f.length).length = 1)) (fun _ i _ => f.length - (intOf i).toNat)
    case atStart => exact ⟨0, Nat.zero_le _, rfl, o0, b0, hid (fun j hj => by omega)⟩
    case round =>
      clear o0 b0
      obtain ⟨k, hk, rfl, ho, hb, hall⟩ := hrel
      by_cases hlt : k < f.length
      · have K1 := hid (C1.out wr hb)
        have K2 := hid (C2.out k wr hb)
        rw [HF.out k] at K2
        have hsz := hb.size
        clear hR C1 C2
        have HM := hid (mk_succ k (back f))
        have hll := mk_len k (back f)
        have HLL := hid hll
        clear hll
        by_cases h1' : (frN f k f.length).length = 1
        · have e1 := fr_one HG.out hlt h1'
          have HA := hid (show ∀ j, j < k + 1 → (frN f j f.length).length = 1 from fun j hj => by
            rcases Nat.lt_succ_iff_lt_or_eq.1 hj with h | rfl
            · exact hall.out j h
            · exact h1')
          rw [e1] at K2
          clear e1 h1' hall
          generalize back f k = Y at *
          generalize mk k (back f) = M at *
          go_wp2_with fail
          refine K1.out.mono ?_; rintro e w' ⟨rfl, rfl⟩
          go_wp2_with fail
          refine K2.out.mono ?_; rintro e w2 ⟨A2, c2, rfl, o2, b2⟩
          obtain ⟨g2, d2, e2, _, _⟩ := o2.pos (by simp [ints])
          cases e2
          have hc := o2.cell (k := 0) (by simp [ints])
          rw [show nth (ints [Y]) 0 = (Y : Int) from rfl] at hc
          have hb2 := hb.trans (b2.mono hsz)
          have ho2 := ho.below (b2.mono (Nat.le_refl _))
          have hsz2 := hb2.size
          rw [show (ints [Y]).length = 1 from rfl]
          clear o2 b2 hb ho
          go_wp2_with (at_builtin; refine wpList_app1 _ rfl _ _ rfl w.heap.size _ M rfl (ho2.alloc _) w2.heap.size (Y : Int) rfl (cell_one1 _ _ _) (by have := HLL.out; omega) (by simp; omega) ?_; intro A3 c3 w3 o3 b3)
          have b3' : Below w.heap.size w w3 := (hb2.alloc hsz2 _).trans b3
          clear b3
          go_wp2_with fail
          go_roundw
          case rel => exact ⟨k + 1, by omega, by go_num, by rw [HM.out]; exact o3, b3', HA⟩
          case measure => simp [intOf]; omega
        · have HN := hid (show turnedB f = false by
            cases hB : turnedB f with
            | false => rfl
            | true =>
              have := fr_inj HG.out (turnedB_iff.1 hB).2 hlt
              exact absurd (by rw [this]; rfl) h1')
          have q1 : (((ints (frN f k f.length)).length : Int) == 1) = false := by rw [ints_len]; simp; omega
          generalize ints (frN f k f.length) = F at *
          generalize mk k (back f) = M at *
          clear h1' hall
          go_wp2_with fail
          refine K1.out.mono ?_; rintro e w' ⟨rfl, rfl⟩
          go_wp2_with fail
          refine K2.out.mono ?_; rintro e w2 ⟨A2, c2, rfl, o2, b2⟩
          have hb2 := hb.trans (b2.mono hsz)
          have o3 := (own_empty w2).mono hb2.size
          have b3 := hb2.alloc hb2.size (.cells #[] 3)
          clear o2 b2 hb ho hb2
          go_wp2_with fail
          go_ret2
          rw [HN.out, show turnedL f = [] by rw [turnedL, if_neg (by rw [HN.out]; simp)]]
          exact turnI_own o3 b3 rfl
      · obtain rfl : k = f.length := by omega
        obtain ⟨A4, c4, rfl, _⟩ := ho.form
        rw [mk_len] at *
        have hI := inj_of_ones HG.out hall.out
        have HN := hid (turnedB_iff.2 ⟨HG.out, hI⟩)
        have q0 : decide (0 < f.length) = true := decide_eq_true (by omega)
        clear hR C1 C2 hI hall
        go_wp2_with fail
        go_ret2
        rw [HN.out, show turnedL f = mk f.length (back f) by rw [turnedL, if_pos HN.out]]
        exact turnI_own ho hb (by rw [mk_len])
  · have HN := hid (show turnedB f = false by simp [turnedB, hf])
    rw [show mapOkB f = false by simpa using hf] at c1
    have K1 := hid (c1 _ b0)
    clear c1 hf hR
    by_cases h0 : 0 < f.length
    · go_enter Try.func28, Try.ntmps28
      go_wp2_with fail
      refine wp_loop_rounds 1 ?_
      rw [rounds_succ]
      go_wp2_with fail
      refine K1.out.mono ?_; rintro e w' ⟨rfl, rfl⟩
      go_wp2_with fail
      go_ret2
      rw [HN.out, show turnedL f = [] by rw [turnedL, if_neg (by rw [HN.out]; simp)]]
      exact turnI_own o0 b0 rfl
    · have q1 : decide ((0 : Int) < (f.length : Int)) = false := decide_eq_false (by omega)
      have q0 : decide (0 < f.length) = false := decide_eq_false (by omega)
      clear h0
      go_enter Try.func28, Try.ntmps28
      go_wp2_with fail
      refine wp_loop_rounds 1 ?_
      rw [rounds_succ]
      go_wp2_with fail
      go_ret2
      rw [HN.out, show turnedL f = [] by rw [turnedL, if_neg (by rw [HN.out]; simp)]]
      exact turnI_own o0 b0 rfl

end Go.Proofs.Ytjipecfoiddkjaa
