/- Steps on the way to the law; each part says what it proves. -/
import Derived.Test.YtkbfcaaihellfaaV9
import Derived.BigQuiet
import Derived.Deep.QuietTactic

set_option linter.unusedSimpArgs false

/- Contracts of chapter 1, the reference's: what leads to a thing; turned maps. -/
namespace Go.Proofs.Ytkbfcaaihellfaa
open Go.RowKit
set_option linter.unusedVariables false

/-- of the first k things those that are led to t -/
def frN (f : List Int) (t : Int) (k : Nat) : List Nat := (List.range k).filter fun j => nth f j == t
def fromL (f : List Int) (t : Int) : List Int := if mapOkB f = true then ints (frN f t f.length) else []
theorem frN_yes {f : List Int} {t : Int} {k : Nat} (h : nth f k = t) : ints (frN f t (k + 1)) = ints (frN f t k) ++ [(k : Int)] := by
  rw [frN, List.range_succ, List.filter_append, show List.filter (fun j => nth f j == t) [k] = [k] by simp [h], ints_append]; rfl
theorem frN_no {f : List Int} {t : Int} {k : Nat} (h : nth f k ≠ t) : ints (frN f t (k + 1)) = ints (frN f t k) := by
  rw [frN, List.range_succ, List.filter_append, show List.filter (fun j => nth f j == t) [k] = [] by simp [h], List.append_nil]; rfl
theorem frN_len (f : List Int) (t : Int) (k : Nat) : (ints (frN f t k)).length ≤ k := by
  rw [ints_len, frN]
  exact Nat.le_trans (List.length_filter_le _ _) (by simp)
theorem mem_frN {f : List Int} {t : Int} {k x : Nat} : x ∈ frN f t k ↔ x < k ∧ nth f x = t := by simp [frN]
theorem frN_nodup (f : List Int) (t : Int) (k : Nat) : (frN f t k).Nodup := List.Nodup.sublist List.filter_sublist List.nodup_range

set_option maxHeartbeats 400000 in
theorem sFromOf_c (A : Option Addr) (c : Nat) (f : List Int) (t : Int) (w : World) (hR : RdA w A f) (hn : f.length ≤ 1048577) :
    Calls Try.prog 54 #[.slice A f.length c, .int .i64 t] w (RetI w (fromL f t)) := by
  have o0 := own_empty w
  have b0 : Below w.heap.size w (w.alloc (.cells #[] 3)) := (Below.refl _ _).alloc (Nat.le_refl _) _
  have c1 := fun W (hb : Below w.heap.size w W) => sMapOk_c A c f W (hR.below hb) hn
  by_cases hf : mapOkB f = true
  · rw [hf] at c1
    have HE := hid (show fromL f t = ints (frN f t f.length) from if_pos hf)
    have h7 := (good_of hf).1.2
    have C1 := hid c1
    clear hf c1
    go_enter Try.func54, Try.ntmps54
    go_wp2_with fail
    go_loopw [5, 6] (fun v i wr => ∃ k : Nat, k ≤ f.length ∧ i = .int .i64 k ∧ Own w.heap.size wr v (ints (frN f t k)) ∧ Below w.heap.size w wr) (fun _ i _ => f.length - (intOf i).toNat)
    case atStart => exact ⟨0, Nat.zero_le _, rfl, o0, b0⟩
    case round =>
      clear o0 b0
      obtain ⟨k, hk, rfl, ho, hb⟩ := hrel
      by_cases hlt : k < f.length
      · obtain ⟨ad, rfl, hc⟩ := (hR.below hb) k hlt
        have hll := frN_len f t k
        have HLL := hid hll
        have hsz := hb.size
        have K1 := hid (C1.out wr hb)
        clear hll hR C1
        by_cases hx : nth f k = t
        · have HM := hid (frN_yes hx)
          have q1 : (nth f k == t) = true := by simpa using hx
          clear hx
          generalize nth f k = X at *
          generalize ints (frN f t k) = M at *
          go_wp2_with fail
          refine K1.out.mono ?_; rintro e w' ⟨rfl, rfl⟩
          go_wp2_with (at_builtin; refine wpList_app1 _ rfl _ _ rfl w.heap.size _ M rfl (ho.alloc _) wr.heap.size (k : Int) rfl (cell_one1 _ _ _) (by have := HLL.out; omega) (by simp; omega) ?_; intro A3 c3 w3 o3 b3)
          have b3' : Below w.heap.size w w3 := (hb.alloc hsz _).trans b3
          clear b3 hb ho
          go_wp2_with fail
          go_roundw
          case rel => exact ⟨k + 1, by omega, by go_num, by rw [HM.out]; exact o3, b3'⟩
          case measure => simp [intOf]; omega
        · have HM := hid (frN_no hx)
          have q1 : (nth f k == t) = false := by simpa using hx
          clear hx
          generalize nth f k = X at *
          generalize ints (frN f t k) = M at *
          go_wp2_with fail
          refine K1.out.mono ?_; rintro e w' ⟨rfl, rfl⟩
          go_wp2_with fail
          go_roundw
          case rel => exact ⟨k + 1, by omega, by go_num, by rw [HM.out]; exact ho, hb⟩
          case measure => simp [intOf]; omega
      · obtain rfl : k = f.length := by omega
        obtain ⟨A4, c4, rfl, _⟩ := ho.form
        rw [← HE.out] at *
        clear hR C1
        go_wp2_with fail
        go_ret
        exact retI_own ho hb
  · have HE := hid (show fromL f t = [] from if_neg hf)
    rw [show mapOkB f = false by simpa using hf] at c1
    have K1 := hid (c1 _ b0)
    clear c1 hf hR
    by_cases h0 : 0 < f.length
    · go_enter Try.func54, Try.ntmps54
      go_wp2_with fail
      refine wp_loop_rounds 1 ?_
      rw [rounds_succ]
      go_wp2_with fail
      refine K1.out.mono ?_; rintro e w' ⟨rfl, rfl⟩
      go_wp2_with fail
      go_ret
      rw [HE.out]
      exact retI_own o0 b0
    · have q1 : decide ((0 : Int) < (f.length : Int)) = false := decide_eq_false (by omega)
      have q0 : decide (0 < f.length) = false := decide_eq_false (by omega)
      clear h0
      go_enter Try.func54, Try.ntmps54
      go_wp2_with fail
      refine wp_loop_rounds 1 ?_
      rw [rounds_succ]
      go_wp2_with fail
      go_ret
      rw [HE.out]
      exact retI_own o0 b0

theorem one_list {l : List Nat} (hd : l.Nodup) {h : Nat} (hm : h ∈ l) (ha : ∀ x ∈ l, x = h) : l = [h] := by
  cases l with
  | nil => simp at hm
  | cons a l =>
    obtain rfl := ha a (by simp)
    cases l with
    | nil => rfl
    | cons b l =>
      obtain rfl := ha b (by simp)
      simp at hd
theorem fr_inj {f : List Int} (hf : Good f) (hi : Inj f) {k : Nat} (hk : k < f.length) : frN f k f.length = [back f k] := by
  obtain ⟨h1, h2⟩ := back_spec hf hi hk
  refine one_list (frN_nodup _ _ _) (mem_frN.2 ⟨h1, by rw [hf.nth_ap h1, h2]⟩) fun x hx => ?_
  obtain ⟨hx1, hx2⟩ := mem_frN.1 hx
  refine hi x _ hx1 h1 ?_
  rw [hf.nth_ap hx1] at hx2
  omega
theorem fr_one {f : List Int} (hf : Good f) {k : Nat} (hk : k < f.length) (h1 : (frN f k f.length).length = 1) : frN f k f.length = [back f k] := by
  obtain ⟨h, e⟩ := List.length_eq_one_iff.1 h1
  rw [e]
  have hm : h ∈ frN f k f.length := by rw [e]; simp
  obtain ⟨h2, h3⟩ := mem_frN.1 hm
  rw [hf.nth_ap h2] at h3
  have hh : ap f h = k := by omega
  have hin : k ∈ (List.range f.length).map (ap f) := by simp; exact ⟨h, h2, hh⟩
  have hlt := List.idxOf_lt_length_of_mem hin
  have hat := List.getElem_idxOf hlt
  have hb : back f k ∈ frN f k f.length := by
    have hl : back f k < f.length := by simpa [back] using hlt
    refine mem_frN.2 ⟨hl, ?_⟩
    rw [hf.nth_ap hl]
    rw [List.getElem_map, List.getElem_range] at hat
    have : ap f (back f k) = k := hat
    omega
  rw [e] at hb
  simp at hb
  rw [hb]
theorem inj_of_ones {f : List Int} (hf : Good f) (h : ∀ k, k < f.length → (frN f k f.length).length = 1) : Inj f := by
  intro i j hi hj e
  have hk := hf.ap_lt hi
  have e1 := fr_one hf hk (h _ hk)
  have m1 : i ∈ frN f (ap f i) f.length := mem_frN.2 ⟨hi, hf.nth_ap hi⟩
  have m2 : j ∈ frN f (ap f i) f.length := mem_frN.2 ⟨hj, by rw [hf.nth_ap hj, e]⟩
  rw [e1] at m1 m2
  simp at m1 m2
  omega
/-- the same, no word of nil -/
def TurnI (w : World) (xs : List Int) (b : Bool) (e : Ending) (w' : World) : Prop := ∃ A c, e = .returned (.tuple #[.slice A xs.length c, .bool b]) ∧ Own w.heap.size w' (.slice A xs.length c) xs ∧ Below w.heap.size w w'
theorem turnI_own {w wr : World} {xs : List Int} {b : Bool} {A : Option Addr} {n c : Nat} (ho : Own w.heap.size wr (.slice A n c) xs) (hb : Below w.heap.size w wr) (hn : n = xs.length) : TurnI w xs b (.returned (.tuple #[.slice A n c, .bool b])) wr := by
  subst hn
  exact ⟨A, c, rfl, ho, hb⟩

set_option maxHeartbeats 1000000 in
theorem sTurnedOf_c (A : Option Addr) (c : Nat) (f : List Int) (w : World) (hR : RdA w A f) (hn : f.length ≤ 1048577) :
    Calls Try.prog 31 #[.slice A f.length c] w (TurnI w (turnedL f) (turnedB f)) := by
  have o0 := own_empty w
  have b0 : Below w.heap.size w (w.alloc (.cells #[] 3)) := (Below.refl _ _).alloc (Nat.le_refl _) _
  have c1 := fun W (hb : Below w.heap.size w W) => sMapOk_c A c f W (hR.below hb) hn
  by_cases hf : mapOkB f = true
  · rw [hf] at c1
    have hF : ∀ t, fromL f t = ints (frN f t f.length) := fun t => if_pos hf
    have c2 := fun (t : Int) W (hb : Below w.heap.size w W) => sFromOf_c A c f t W (hR.below hb) hn
    have HG := hid (good_of hf)
    have h7 := (good_of hf).1.2
    have h1 := (good_of hf).1.1
    have C1 := hid c1
    have C2 := hid c2
    have HF := hid hF
    clear hf c1 c2 hF
    go_enter Try.func31, Try.ntmps31
    go_wp2_with fail
    go_loopw [4, 5] (fun v i wr => ∃ k : Nat, k ≤ f.length ∧ i = .int .i64 k ∧ Own w.heap.size wr v (mk k (back f)) ∧ Below w.heap.size w wr ∧ Hid (∀ j, j < k → (frN f j f.length).length = 1)) (fun _ i _ => f.length - (intOf i).toNat)
    case atStart => exact ⟨0, Nat.zero_le _, rfl, o0, b0, hid (fun j hj => by omega)⟩
    case round =>
      clear o0 b0
      obtain ⟨k, hk, rfl, ho, hb, hall⟩ := hrel
      by_cases hlt : k < f.length
      · have K1 := hid (C1.out wr hb)
        have K2 := hid (C2.out k wr hb)
        rw [HF.out k] at K2
        have hsz := hb.size
        clear hR C1 C2
        have HM := hid (mk_succ k (back f))
        have hll := mk_len k (back f)
        have HLL := hid hll
        clear hll
        by_cases h1' : (frN f k f.length).length = 1
        · have e1 := fr_one HG.out hlt h1'
          have HA := hid (show ∀ j, j < k + 1 → (frN f j f.length).length = 1 from fun j hj => by
            rcases Nat.lt_succ_iff_lt_or_eq.1 hj with h | rfl
            · exact hall.out j h
            · exact h1')
          rw [e1] at K2
          clear e1 h1' hall
          generalize back f k = Y at *
          generalize mk k (back f) = M at *
          go_wp2_with fail
          refine K1.out.mono ?_; rintro e w' ⟨rfl, rfl⟩
          go_wp2_with fail
          refine K2.out.mono ?_; rintro e w2 ⟨A2, c2, rfl, o2, b2⟩
          obtain ⟨g2, d2, e2, _, _⟩ := o2.pos (by simp [ints])
          cases e2
          have hc := o2.cell (k := 0) (by simp [ints])
          rw [show nth (ints [Y]) 0 = (Y : Int) from rfl] at hc
          have hb2 := hb.trans (b2.mono hsz)
          have ho2 := ho.below (b2.mono (Nat.le_refl _))
          have hsz2 := hb2.size
          rw [show (ints [Y]).length = 1 from rfl]
          clear o2 b2 hb ho
          go_wp2_with (at_builtin; refine wpList_app1 _ rfl _ _ rfl w.heap.size _ M rfl (ho2.alloc _) w2.heap.size (Y : Int) rfl (cell_one1 _ _ _) (by have := HLL.out; omega) (by simp; omega) ?_; intro A3 c3 w3 o3 b3)
          have b3' : Below w.heap.size w w3 := (hb2.alloc hsz2 _).trans b3
          clear b3
          go_wp2_with fail
          go_roundw
          case rel => exact ⟨k + 1, by omega, by go_num, by rw [HM.out]; exact o3, b3', HA⟩
          case measure => simp [intOf]; omega
        · have HN := hid (show turnedB f = false by
            cases hB : turnedB f with
            | false => rfl
            | true =>
              have := fr_inj HG.out (turnedB_iff.1 hB).2 hlt
              exact absurd (by rw [this]; rfl) h1')
          have q1 : (((ints (frN f k f.length)).length : Int) == 1) = false := by rw [ints_len]; simp; omega
          generalize ints (frN f k f.length) = F at *
          generalize mk k (back f) = M at *
          clear h1' hall
          go_wp2_with fail
          refine K1.out.mono ?_; rintro e w' ⟨rfl, rfl⟩
          go_wp2_with fail
          refine K2.out.mono ?_; rintro e w2 ⟨A2, c2, rfl, o2, b2⟩
          have hb2 := hb.trans (b2.mono hsz)
          have o3 := (own_empty w2).mono hb2.size
          have b3 := hb2.alloc hb2.size (.cells #[] 3)
          clear o2 b2 hb ho hb2
          go_wp2_with fail
          go_ret2
          rw [HN.out, show turnedL f = [] by rw [turnedL, if_neg (by rw [HN.out]; simp)]]
          exact turnI_own o3 b3 rfl
      · obtain rfl : k = f.length := by omega
        obtain ⟨A4, c4, rfl, _⟩ := ho.form
        rw [mk_len] at *
        have hI := inj_of_ones HG.out hall.out
        have HN := hid (turnedB_iff.2 ⟨HG.out, hI⟩)
        have q0 : decide (0 < f.length) = true := decide_eq_true (by omega)
        clear hR C1 C2 hI hall
        go_wp2_with fail
        go_ret2
        rw [HN.out, show turnedL f = mk f.length (back f) by rw [turnedL, if_pos HN.out]]
        exact turnI_own ho hb (by rw [mk_len])
  · have HN := hid (show turnedB f = false by simp [turnedB, hf])
    rw [show mapOkB f = false by simpa using hf] at c1
    have K1 := hid (c1 _ b0)
    clear c1 hf hR
    by_cases h0 : 0 < f.length
    · go_enter Try.func31, Try.ntmps31
      go_wp2_with fail
      refine wp_loop_rounds 1 ?_
      rw [rounds_succ]
      go_wp2_with fail
      refine K1.out.mono ?_; rintro e w' ⟨rfl, rfl⟩
      go_wp2_with fail
      go_ret2
      rw [HN.out, show turnedL f = [] by rw [turnedL, if_neg (by rw [HN.out]; simp)]]
      exact turnI_own o0 b0 rfl
    · have q1 : decide ((0 : Int) < (f.length : Int)) = false := decide_eq_false (by omega)
      have q0 : decide (0 < f.length) = false := decide_eq_false (by omega)
      clear h0
      go_enter Try.func31, Try.ntmps31
      go_wp2_with fail
      refine wp_loop_rounds 1 ?_
      rw [rounds_succ]
      go_wp2_with fail
      go_ret2
      rw [HN.out, show turnedL f = [] by rw [turnedL, if_neg (by rw [HN.out]; simp)]]
      exact turnI_own o0 b0 rfl

end Go.Proofs.Ytkbfcaaihellfaa

/- Contracts of chapter 2: ways and tails. -/
namespace Go.Proofs.Ytkbfcaaihellfaa
open Go.RowKit
set_option linter.unusedVariables false

def wayL (f : List Int) (t : Int) : List Int := if thB f t = true then ints (way f t.toNat) else []
def tailV (f : List Int) (t : Int) : Int := if thB f t = true then (tail f t.toNat : Int) else -1
def loopV (f : List Int) (t : Int) : Int := if thB f t = true then (loop f t.toNat : Int) else -1
theorem th_no {f : List Int} {t : Int} (h : ¬ thB f t = true) : thB f t = false := by simpa using h
theorem th_nat {f : List Int} {t : Int} (h : thB f t = true) : ∃ n : Nat, t = (n : Int) ∧ n < f.length ∧ Good f := by
  obtain ⟨hf, h0, h1⟩ := thB_iff.1 h
  exact ⟨t.toNat, by omega, by omega, hf⟩
theorem wayL_yes {f : List Int} {n : Nat} (h : thB f n = true) : wayL f n = ints (way f n) := by rw [wayL, if_pos h]; rfl
theorem tailV_yes {f : List Int} {n : Nat} (h : thB f n = true) : tailV f n = (tail f n : Int) := by rw [tailV, if_pos h]; rfl
theorem loopV_yes {f : List Int} {n : Nat} (h : thB f n = true) : loopV f n = (loop f n : Int) := by rw [loopV, if_pos h]; rfl
theorem wayL_no {f : List Int} {t : Int} (h : ¬ thB f t = true) : wayL f t = [] := by rw [wayL, if_neg h]
theorem tailV_no {f : List Int} {t : Int} (h : ¬ thB f t = true) : tailV f t = -1 := by rw [tailV, if_neg h]
theorem loopV_no {f : List Int} {t : Int} (h : ¬ thB f t = true) : loopV f t = -1 := by rw [loopV, if_neg h]
theorem way_len (f : List Int) (n : Nat) : (ints (way f n)).length = rho f n := by rw [ints_len, way, walk_len]

theorem idxOf_ints (l : List Nat) (x : Nat) : (l.map Int.ofNat).idxOf (x : Int) = l.idxOf x := by
  induction l with
  | nil => rfl
  | cons a l ih =>
    rw [List.map_cons, List.idxOf_cons, List.idxOf_cons, ih]
    have : (Int.ofNat a == (x : Int)) = (a == x) := by
      rw [Bool.eq_iff_iff, beq_iff_eq, beq_iff_eq]
      exact ⟨fun h => by have h2 : (a : Int) = x := h; omega, fun h => by rw [h]; rfl⟩
    rw [this]

theorem iWayFrom_c (A : Option Addr) (c : Nat) (f : List Int) (t : Int) (w : World) (hR : RdA w A f) (hn : f.length ≤ 1048577) :
    Calls Try.prog 91 #[.slice A f.length c, .int .i64 t] w (RetI w (wayL f t)) := by
  have c1 := thingOk_c A c f t w hR hn
  by_cases h : thB f t = true
  · obtain ⟨n, rfl, hlt, hf⟩ := th_nat h
    have c2 := walked_c A c f n w hR hf hlt
    have HE := hid (wayL_yes h)
    rw [h] at c1
    clear h hR hf
    go_enter Try.func91, Try.ntmps91
    go_wp2_with fail
    refine c1.mono ?_; rintro e w' ⟨rfl, rfl⟩
    go_wp2_with fail
    refine c2.mono ?_; rintro e w' ⟨B, d, rfl, ho, hb⟩
    go_wp2_with fail
    go_ret
    rw [HE.out]
    exact retI_own ho hb
  · have HE := hid (wayL_no h)
    rw [th_no h] at c1
    clear h hR
    go_enter Try.func91, Try.ntmps91
    go_wp2_with fail
    refine c1.mono ?_; rintro e w' ⟨rfl, rfl⟩
    go_wp2_with fail
    go_ret
    rw [HE.out]
    exact (RetN.nil w).ret

theorem iTailOf_c (A : Option Addr) (c : Nat) (f : List Int) (t : Int) (w : World) (hR : RdA w A f) (hn : f.length ≤ 1048577) :
    Calls Try.prog 50 #[.slice A f.length c, .int .i64 t] w fun e w' => e = .returned (.int .i64 (tailV f t)) ∧ Below w.heap.size w w' := by
  have c1 := thingOk_c A c f t w hR hn
  by_cases h : thB f t = true
  · obtain ⟨n, rfl, hlt, hf⟩ := th_nat h
    have c2 := walked_c A c f n w hR hf hlt
    have HE := hid (tailV_yes h)
    have hl := rho_le hf hlt
    have h7 := hf.1.2
    have HM := hid (show (it f (rho f n) n : Int) ∈ ints (way f n) from by simp only [ints, List.mem_map]; exact ⟨_, rho_back hf hlt, rfl⟩)
    have HI := hid (show ((ints (way f n)).idxOf (it f (rho f n) n : Int)) = tail f n from by
      rw [tail, ints]
      exact idxOf_ints _ _)
    have HW := hid (way_len f n)
    rw [h] at c1
    clear h hR hf
    go_enter Try.func50, Try.ntmps50
    go_wp2_with fail
    refine c1.mono ?_; rintro e w' ⟨rfl, rfl⟩
    go_wp2_with fail
    refine c2.mono ?_; rintro e w' ⟨B, d, rfl, ho, hb⟩
    have c3 := index_c B d _ _ w' ho.rd (by rw [HW.out]; omega) HM.out
    rw [HI.out, HW.out] at c3
    go_wp2_with fail
    refine c3.mono ?_; rintro e w' ⟨rfl, rfl⟩
    go_wp2_with fail
    go_ret
    exact ⟨ret_int HE.out.symm, hb⟩
  · have HE := hid (tailV_no h)
    rw [th_no h] at c1
    clear h hR
    go_enter Try.func50, Try.ntmps50
    go_wp2_with fail
    refine c1.mono ?_; rintro e w' ⟨rfl, rfl⟩
    go_wp2_with fail
    go_ret
    exact ⟨ret_int HE.out.symm, Below.refl _ _⟩


theorem iOnLoop_c (A : Option Addr) (c : Nat) (f : List Int) (t : Int) (w : World) (hR : RdA w A f) (hn : f.length ≤ 1048577) :
    Calls Try.prog 27 #[.slice A f.length c, .int .i64 t] w fun e w' => e = .returned (.bool (tailV f t == 0)) ∧ Below w.heap.size w w' := by
  have c1 := iTailOf_c A c f t w hR hn
  clear hR
  generalize tailV f t = T at *
  go_enter Try.func27, Try.ntmps27
  go_wp2_with fail
  refine c1.mono ?_; rintro e w' ⟨rfl, hb⟩
  go_wp2_with fail
  go_ret
  exact ⟨rfl, hb⟩

theorem mask_shr (l : List Nat) (x : Nat) : (Int.tmod ((mask l : Int) / 2 ^ x) 2 == 0) = !decide (x ∈ l) := by
  have e1 : ((mask l : Int) / 2 ^ x) = ((mask l / 2 ^ x : Nat) : Int) := by
    rw [Int.natCast_ediv, Int.natCast_pow]; rfl
  have e2 := mask_bit l x
  rw [Nat.testBit_eq_decide_div_mod_eq] at e2
  rw [e1, ← e2]
  generalize mask l / 2 ^ x = m
  have e3 : Int.tmod (m : Int) 2 = ((m % 2 : Nat) : Int) := by
    rw [Int.tmod_eq_emod_of_nonneg (by omega)]; omega
  rw [e3]
  have : m % 2 = 0 ∨ m % 2 = 1 := by omega
  rcases this with h | h <;> rw [h] <;> rfl
theorem walk_back_iff {f : List Int} (hf : Good f) {n : Nat} (hn : n < f.length) {k : Nat} (hk : k ≤ rho f n) : decide (it f k n ∈ walk f n k) = decide (k = rho f n) := decide_eq_decide.2 (rho_first hf hn hk)

set_option maxRecDepth 20000 in
set_option maxHeartbeats 1000000 in
theorem sWayFrom_c (A : Option Addr) (c : Nat) (f : List Int) (t : Int) (w : World) (hR : RdA w A f) (hn : f.length ≤ 1048577) :
    Calls Try.prog 94 #[.slice A f.length c, .int .i64 t] w (RetI w (wayL f t)) := by
  have o0 := own_empty w
  have b0 : Below w.heap.size w (w.alloc (.cells #[] 3)) := (Below.refl _ _).alloc (Nat.le_refl _) _
  have c1 := sMapOk_c A c f _ (hR.below b0) hn
  by_cases h : thB f t = true
  · obtain ⟨n, rfl, hlt, hf⟩ := th_nat h
    rw [ok_of hf] at c1
    have HE := hid (wayL_yes h)
    have c3 := l1In_t n 0 ((f.length : Int) - 1) (w.alloc (.cells #[] 3)) (by omega)
    have hl := rho_le hf hlt
    have hrp := rho_pos hf hlt
    have h7 := hf.1.2
    have HF := hid hf
    clear h hf
    go_enter Try.func94, Try.ntmps94
    go_wp2_with fail
    refine c1.mono ?_; rintro e w' ⟨rfl, rfl⟩
    go_wp2_with fail
    refine c3.mono ?_; rintro e w' ⟨rfl, rfl⟩
    go_wp2_with fail
    clear c1 c3
    go_loopw [5, 6, 7] (fun v s i wr => ∃ k : Nat, k ≤ rho f n ∧ i = .int .i64 (it f k n) ∧ s = .int .i64 (mask (walk f n k)) ∧ Own w.heap.size wr v (ints (walk f n k)) ∧ Below w.heap.size w wr) (fun v _ _ _ => 8 - lenOf v)
    case atStart => exact ⟨0, Nat.zero_le _, rfl, rfl, o0, b0⟩
    case round =>
      clear o0 b0
      obtain ⟨k, hk, rfl, rfl, ho, hb⟩ := hrel
      have hit := HF.out.it_lt hlt k
      have q := mask_shr (walk f n k) (it f k n)
      rw [walk_back_iff HF.out hlt hk] at q
      have HI := hid (ints_walk f n k)
      have HL := hid (ints_walk_len f n k)
      have hsz := hb.size
      by_cases hkr : k = rho f n
      · subst hkr
        rw [decide_eq_true rfl, Bool.not_true] at q
        have HW := hid (show ints (walk f n (rho f n)) = wayL f n from HE.out.symm)
        rw [HW.out] at ho
        clear hR HI HL HE HF HW
        obtain ⟨A4, c4, rfl, _⟩ := ho.form
        generalize mask (walk f n (rho f n)) = M at *
        generalize it f (rho f n) n = X at *
        generalize wayL f n = W at *
        go_wp2_with fail
        go_ret
        exact retI_own ho hb
      · rw [decide_eq_false hkr, Bool.not_false] at q
        have q1 := mask_or (l := walk f n k) (x := it f k n) (mem_walk_lt HF.out hlt k) (by omega)
        rw [← walk_succ] at q1
        have HX := hid (show nth f (it f k n) = (it f (k + 1) n : Int) from HF.out.nth_ap hit)
        have HR := hid hR
        obtain ⟨ad, rfl, -⟩ := HR.out _ hit
        clear hR HE HF
        generalize hM' : mask (walk f n (k + 1)) = M' at *
        have HM := hid hM'
        generalize hY : it f (k + 1) n = Y at *
        have HY := hid hY
        clear hM' hY
        generalize mask (walk f n k) = M at *
        generalize it f k n = X at *
        go_wp2_with (at_builtin; refine wpList_app1 _ rfl _ _ rfl w.heap.size _ (ints (walk f n k)) rfl (ho.alloc _) wr.heap.size (X : Int) rfl (cell_one1 _ _ _) (by have := HL.out; omega) (by simp <;> omega) ?_; intro A3 c3 w3 o3 b3; have b3' : Below w.heap.size w w3 := (hb.alloc hsz _).trans b3; obtain ⟨ad', ee, hc⟩ := (HR.out.below b3') X hit; rw [HX.out] at hc; cases ee)
        rw [← HI.out] at o3
        obtain ⟨A0, c0, rfl, -⟩ := ho.form
        go_roundw
        case rel => exact ⟨k + 1, by omega, by rw [HY.out], by rw [HM.out], o3, b3'⟩
        case measure => simp [lenOf, ints_walk_len]; omega
  · have HE := hid (wayL_no h)
    rw [thB] at h
    by_cases hf : mapOkB f = true
    · rw [hf] at c1 h
      have c3 := l1In_f t 0 ((f.length : Int) - 1) (w.alloc (.cells #[] 3)) (by rw [Bool.true_and, decide_eq_true_eq] at h; omega)
      have h1 := (good_of hf).1
      clear h hf hR
      go_enter Try.func94, Try.ntmps94
      go_wp2_with fail
      refine c1.mono ?_; rintro e w' ⟨rfl, rfl⟩
      go_wp2_with fail
      refine c3.mono ?_; rintro e w' ⟨rfl, rfl⟩
      go_wp2_with fail
      go_ret
      rw [HE.out]
      exact retI_own o0 b0
    · rw [show mapOkB f = false by simpa using hf] at c1
      clear h hf hR
      go_enter Try.func94, Try.ntmps94
      go_wp2_with fail
      refine c1.mono ?_; rintro e w' ⟨rfl, rfl⟩
      go_wp2_with fail
      go_ret
      rw [HE.out]
      exact retI_own o0 b0

end Go.Proofs.Ytkbfcaaihellfaa

/- Contracts of chapter 2: tails of the reference, least things of loops. -/
namespace Go.Proofs.Ytkbfcaaihellfaa
open Go.RowKit
set_option linter.unusedVariables false

theorem nth_way (f : List Int) (n k : Nat) (hk : k < rho f n) : nth (ints (way f n)) k = (it f k n : Int) := by
  have h : k < (way f n).length := by rw [way, walk_len]; exact hk
  rw [nth_ints h]
  simp only [way, walk_get]

set_option maxHeartbeats 1000000 in
theorem sTailOf_c (A : Option Addr) (c : Nat) (f : List Int) (t : Int) (w : World) (hR : RdA w A f) (hn : f.length ≤ 1048577) :
    Calls Try.prog 101 #[.slice A f.length c, .int .i64 t] w fun e w' => e = .returned (.int .i64 (tailV f t)) ∧ Below w.heap.size w w' := by
  have c1 := sWayFrom_c A c f t w hR hn
  by_cases h : thB f t = true
  · obtain ⟨n, rfl, hlt, hf⟩ := th_nat h
    rw [wayL_yes h] at c1
    have HE := hid (tailV_yes h)
    have hl := rho_le hf hlt
    have hrp := rho_pos hf hlt
    have htl := tail_lt hf hlt
    have h7 := hf.1.2
    have HF := hid hf
    have HW := hid (way_len f n)
    have C1 := hid c1
    clear h hf c1
    go_enter Try.func101, Try.ntmps101
    go_wp2_with fail
    refine C1.out.mono ?_; rintro e w2 ⟨A2, c2, rfl, ho, hb⟩
    rw [HW.out]
    obtain ⟨g, c2', e2, _, _⟩ := ho.pos (by rw [HW.out]; exact hrp)
    cases e2
    have HO := hid ho
    have HR := hid (hR.below hb)
    clear ho hR C1
    go_wp2_with fail
    go_loopw [6] (fun i wr => ∃ k : Nat, k ≤ tail f n ∧ i = .int .i64 k ∧ Below w2.heap.size w2 wr) (fun i _ => rho f n - (intOf i).toNat)
    case atStart => exact ⟨0, Nat.zero_le _, rfl, Below.refl _ _⟩
    case round =>
      obtain ⟨k, hk, rfl, hb3⟩ := hrel
      have ho := HO.out.below (hb3.mono (Nat.le_refl _))
      have hc1 := ho.cell (k := k) (by rw [HW.out]; omega)
      rw [nth_way f n k (by omega)] at hc1
      have hc2 := ho.cell (k := rho f n - 1) (by rw [HW.out]; omega)
      rw [nth_way f n _ (by omega)] at hc2
      have hit := HF.out.it_lt hlt (rho f n - 1)
      obtain ⟨ad, rfl, hc3⟩ := (HR.out.below hb3) _ hit
      rw [HF.out.nth_ap hit, show ap f (it f (rho f n - 1) n) = it f (rho f n) n by rw [show rho f n = (rho f n - 1) + 1 by omega]; rfl] at hc3
      have HB := hid (hb.trans (hb3.mono hb.size))
      have q0 : IntKind.i64.wrap ((rho f n : Int) - 1) = ((rho f n - 1 : Nat) : Int) := by rw [IntWalk.i64_in _ (by omega)]; omega
      have q00 : ((rho f n : Int) - 1) = ((rho f n - 1 : Nat) : Int) := by omega
      have HB3 := hid hb3
      clear ho hb3
      by_cases hkt : k = tail f n
      · subst hkt
        have q : ((it f (tail f n) n : Int) == (it f (rho f n) n : Int)) = true := by rw [tail_it HF.out hlt]; simp
        rw [tail_it HF.out hlt] at hc1 q
        generalize it f (rho f n - 1) n = X at *
        generalize it f (rho f n) n = Y at *
        generalize rho f n - 1 = l at *
        generalize hT : tail f n = T at *
        clear HO HR
        go_wp2
        rw [q0] at *
        go_region
        all_goals go_wp2
        all_goals go_ret
        all_goals exact ⟨ret_int (by rw [HE.out]), by first | exact HB.out.drew | exact HB.out⟩
      · have q : ((it f k n : Int) == (it f (rho f n) n : Int)) = false := by
          have : it f k n ≠ it f (rho f n) n := fun e => hkt (it_inj HF.out hlt (by omega) htl (e.trans (tail_it HF.out hlt).symm))
          simp; omega
        generalize it f (rho f n - 1) n = X at *
        generalize it f (rho f n) n = Y at *
        generalize it f k n = Z at *
        generalize rho f n - 1 = l at *
        clear HO HR
        go_wp2
        rw [q0] at *
        go_region
        all_goals go_wp2
        all_goals go_roundw
        case rel => exact ⟨k + 1, by omega, by go_num, by first | exact HB3.out.drew | exact HB3.out⟩
        case measure => simp [intOf]; omega
  · have HE := hid (tailV_no h)
    rw [wayL_no h] at c1
    clear h hR
    go_enter Try.func101, Try.ntmps101
    go_wp2_with fail
    refine c1.mono ?_; rintro e w2 ⟨A2, c2, rfl, ho, hb⟩
    rw [show ([] : List Int).length = 0 from rfl]
    go_wp2_with fail
    refine wp_loop_rounds 1 ?_
    rw [rounds_succ]
    go_wp2_with fail
    go_ret
    exact ⟨ret_int HE.out.symm, hb⟩

theorem sOnLoop_c (A : Option Addr) (c : Nat) (f : List Int) (t : Int) (w : World) (hR : RdA w A f) (hn : f.length ≤ 1048577) :
    Calls Try.prog 92 #[.slice A f.length c, .int .i64 t] w fun e w' => e = .returned (.bool (tailV f t == 0)) ∧ Below w.heap.size w w' := by
  have c1 := sTailOf_c A c f t w hR hn
  clear hR
  generalize tailV f t = T at *
  go_enter Try.func92, Try.ntmps92
  go_wp2_with fail
  refine c1.mono ?_; rintro e w' ⟨rfl, hb⟩
  go_wp2_with fail
  go_ret
  exact ⟨rfl, hb⟩

end Go.Proofs.Ytkbfcaaihellfaa

/- Contracts of chapter 2: least things of loops, lots, heights. -/
namespace Go.Proofs.Ytkbfcaaihellfaa
open Go.RowKit
set_option linter.unusedVariables false

def mm (xs : List Int) : Nat → Int
  | 0 => nth xs 0
  | k + 1 => if nth xs k < mm xs k then nth xs k else mm xs k
theorem mm_one (xs : List Int) : mm xs 1 = nth xs 0 := by simp [mm]
theorem mm_mem (xs : List Int) : ∀ k, ∃ j, j ≤ k - 1 ∧ mm xs k = nth xs j
  | 0 => ⟨0, by omega, rfl⟩
  | k + 1 => by
    obtain ⟨j, hj, e⟩ := mm_mem xs k
    by_cases h : nth xs k < mm xs k
    · exact ⟨k, by omega, by rw [mm, if_pos h]⟩
    · exact ⟨j, by omega, by rw [mm, if_neg h, e]⟩
theorem mm_le (xs : List Int) : ∀ k j, j < k → mm xs k ≤ nth xs j
  | 0, j, h => by omega
  | k + 1, j, h => by
    rw [mm]
    by_cases e : j = k
    · subst e; split <;> omega
    · have := mm_le xs k j (by omega)
      split <;> omega
theorem Own.cap {B : Nat} {w : World} {A : Option Addr} {n c : Nat} {xs : List Int} (h : Own B w (.slice A n c) xs) : n ≤ c ∧ c ≤ maxLen := by
  have hn : n = xs.length := Own.len h
  obtain ⟨_, ⟨e, _⟩ | ⟨g, cap, cur, e, _, _, h1, h2, _, _⟩⟩ := h
  · cases e; exact ⟨Nat.le_refl _, Nat.zero_le _⟩
  · cases e
    omega
theorem mm_ints {l : List Nat} (hl : l ≠ []) : mm (ints l) l.length = (minL l : Int) := by
  have h0 : 0 < l.length := List.length_pos_iff.2 hl
  obtain ⟨j, hj, e⟩ := mm_mem (ints l) l.length
  have hj' : j < l.length := by omega
  rw [nth_ints hj'] at e
  rw [e]
  have : minL l = l[j] := minL_eq (List.getElem_mem hj') fun x hx => by
    obtain ⟨i, hi, rfl⟩ := List.getElem_of_mem hx
    have := mm_le (ints l) l.length i hi
    rw [e, nth_ints hi] at this
    omega
  rw [this]

theorem min_c (A : Option Addr) (c : Nat) (xs : List Int) (w : World) (hR : RdA w A xs) (hn : xs.length ≤ 1048577) (h0 : 0 < xs.length) :
    Calls Try.prog 100 #[.slice A xs.length c] w fun e w' => e = .returned (.int .i64 (mm xs xs.length)) ∧ w = w' := by
  have HR := hid hR
  obtain ⟨ad, rfl, hc0⟩ := hR 0 h0
  have e0 : ad.add 0 = ad := by cases ad; simp [Addr.add]
  rw [e0] at hc0
  have H1 := hid (mm_one xs)
  clear hR e0
  go_enter Try.func100, Try.ntmps100
  go_wp2_with fail
  go_loop [3, 4] (fun m i => ∃ k : Nat, 1 ≤ k ∧ k ≤ xs.length ∧ i = .int .i64 k ∧ m = .int .i64 (mm xs k)) (fun _ i => xs.length - (intOf i).toNat)
  case atStart => exact ⟨1, by omega, by omega, rfl, by rw [H1.out]⟩
  case round =>
    obtain ⟨k, hk1, hk, rfl, rfl⟩ := hrel
    by_cases hlt : k < xs.length
    · obtain ⟨ad', ee, hc⟩ := HR.out k hlt
      cases ee
      have HS := hid (show mm xs (k + 1) = if nth xs k < mm xs k then nth xs k else mm xs k from rfl)
      clear hc0
      generalize mm xs k = M at *
      generalize nth xs k = X at *
      go_wp2_with fail
      go_round
      case rel => exact ⟨k + 1, by omega, by omega, by go_num, by rw [HS.out]⟩
      case measure => simp [intOf]; omega
    · obtain rfl : k = xs.length := by omega
      have HM := hid (show ∃ M, mm xs xs.length = M from ⟨_, rfl⟩)
      obtain ⟨M, hM⟩ := HM.out
      rw [hM]
      have KM := hid hM
      clear hM HM
      go_wp2_with fail
      go_ret
      exact ⟨ret_int KM.out.symm, rfl⟩

def lotV (f : List Int) (t : Int) : Int := if thB f t = true then (loopOf f t.toNat : Int) else -1
theorem lotV_yes {f : List Int} {n : Nat} (h : thB f n = true) : lotV f n = (loopOf f n : Int) := by rw [lotV, if_pos h]; rfl
theorem lotV_no {f : List Int} {t : Int} (h : ¬ thB f t = true) : lotV f t = -1 := by rw [lotV, if_neg h]

set_option maxHeartbeats 400000 in
theorem iLoopOf_c (A : Option Addr) (c : Nat) (f : List Int) (t : Int) (w : World) (hR : RdA w A f) (hn : f.length ≤ 1048577) :
    Calls Try.prog 90 #[.slice A f.length c, .int .i64 t] w fun e w' => e = .returned (.int .i64 (lotV f t)) ∧ Below w.heap.size w w' := by
  have c1 := thingOk_c A c f t w hR hn
  by_cases h : thB f t = true
  · obtain ⟨n, rfl, hlt, hf⟩ := th_nat h
    have c2 := iWayFrom_c A c f n w hR hn
    have HE := hid (lotV_yes h)
    have C3 := hid (fun W (hb : Below w.heap.size w W) => iTailOf_c A c f n W (hR.below hb) hn)
    rw [tailV_yes h] at C3
    rw [wayL_yes h] at c2
    have hr := rho_eq hf hlt
    have hl := rho_le hf hlt
    have hp := loop_pos hf hlt
    have h7 := hf.1.2
    have HW := hid (way_len f n)
    have HM := hid (show mm (ints (loopL f n)) (loopL f n).length = (loopOf f n : Int) from mm_ints (loopL_ne hf hlt))
    have HL := hid (show (ints (loopL f n)).length = loop f n by rw [ints_len, loopL_len])
    have HN := hid (show ∀ k, k < loop f n → nth (ints (loopL f n)) k = nth (ints (way f n)) (tail f n + k) from fun k hk => by
      have h1 : k < (loopL f n).length := by rw [loopL_len]; exact hk
      have h2 : tail f n + k < (way f n).length := by rw [way, walk_len]; omega
      rw [nth_ints h1, nth_ints h2]
      simp only [loopL, List.getElem_drop])
    have K2 := hid c2
    rw [h] at c1
    clear h hR hf c2
    go_enter Try.func90, Try.ntmps90
    go_wp2_with fail
    refine c1.mono ?_; rintro e w' ⟨rfl, rfl⟩
    go_wp2_with fail
    refine K2.out.mono ?_; rintro e w' ⟨B, d, rfl, ho, hb⟩
    rw [HW.out]
    obtain ⟨g, d', e2, _, _⟩ := ho.pos (by rw [HW.out]; omega)
    cases e2
    have hcap := ho.cap.1
    have hcap2 := ho.cap.2
    rw [HW.out] at hcap
    unfold maxLen at hcap2
    have c4 := C3.out w' hb
    clear C3 K2
    go_wp2_with fail
    refine c4.mono ?_; rintro e w2 ⟨rfl, hb2⟩
    have ho2 := ho.below (hb2.mono (Nat.le_refl _))
    have c5 := min_c (some ⟨g, tail f n, none⟩) (d - tail f n) (ints (loopL f n)) w2 (fun k hk => by
      rw [HL.out] at hk
      have := ho2.cell (k := tail f n + k) (by rw [HW.out]; omega)
      refine ⟨_, rfl, ?_⟩
      rw [HN.out k hk]
      by_cases k0 : k = 0
      · subst k0; simpa [Addr.add] using this
      · simpa [Addr.add, k0] using this) (by rw [HL.out]; omega) (by rw [HL.out]; omega)
    rw [HL.out] at c5
    have HM2 := HM
    rw [loopL_len] at HM2
    rw [HM2.out] at c5
    go_wp2_with fail
    refine c5.mono ?_; rintro e w3 ⟨rfl, rfl⟩
    go_wp2_with fail
    go_ret
    exact ⟨ret_int HE.out.symm, hb.trans (hb2.mono hb.size)⟩
  · have HE := hid (lotV_no h)
    rw [th_no h] at c1
    clear h hR
    go_enter Try.func90, Try.ntmps90
    go_wp2_with fail
    refine c1.mono ?_; rintro e w' ⟨rfl, rfl⟩
    go_wp2_with fail
    go_ret
    exact ⟨ret_int HE.out.symm, Below.refl _ _⟩

end Go.Proofs.Ytkbfcaaihellfaa

/- Contracts of chapters 2 and 4: least things of loops (the reference's), heights, index. -/
namespace Go.Proofs.Ytkbfcaaihellfaa
open Go.RowKit
set_option linter.unusedVariables false

theorem th_of {f : List Int} (hf : Good f) {k : Nat} (hk : k < f.length) : thB f k = true := thB_iff.2 ⟨hf, by omega, by omega⟩
/-- the greatest tail of the first k things -/
def hiT (f : List Int) : Nat → Int
  | 0 => -1
  | k + 1 => if hiT f k < (tail f k : Int) then (tail f k : Int) else hiT f k
def highV (f : List Int) : Int := if mapOkB f = true then hiT f f.length else -1
theorem hiT_le (f : List Int) : ∀ k j, j < k → (tail f j : Int) ≤ hiT f k
  | 0, j, h => by omega
  | k + 1, j, h => by
    rw [hiT]
    by_cases e : j = k
    · subst e; split <;> omega
    · have := hiT_le f k j (by omega)
      split <;> omega
theorem hiT_mem (f : List Int) : ∀ k, 0 < k → ∃ j, j < k ∧ hiT f k = (tail f j : Int)
  | 0, h => by omega
  | k + 1, h => by
    rw [hiT]
    by_cases h1 : hiT f k < (tail f k : Int)
    · exact ⟨k, by omega, by rw [if_pos h1]⟩
    · rw [if_neg h1]
      by_cases hk : 0 < k
      · obtain ⟨j, hj, e⟩ := hiT_mem f k hk
        exact ⟨j, by omega, e⟩
      · obtain rfl : k = 0 := by omega
        simp [hiT] at h1
        omega
theorem hiT_low (f : List Int) : ∀ k, -1 ≤ hiT f k
  | 0 => by simp [hiT]
  | k + 1 => by
    have := hiT_low f k
    rw [hiT]
    split <;> omega
theorem hiT_high {f : List Int} (hf : Good f) {k : Nat} (hk : k ≤ f.length) : hiT f k < f.length := by
  cases k with
  | zero => simp only [hiT]; omega
  | succ k =>
    obtain ⟨j, hj, e⟩ := hiT_mem f (k + 1) (by omega)
    have := tail_le hf (show j < f.length by omega)
    omega



theorem mem_loopL' {f : List Int} {n x : Nat} : x ∈ loopL f n ↔ ∃ j, tail f n ≤ j ∧ j < rho f n ∧ it f j n = x := by
  constructor
  · intro h
    obtain ⟨i, hi, rfl⟩ := List.getElem_of_mem h
    have hi' := hi
    rw [loopL_len, loop] at hi'
    refine ⟨tail f n + i, by omega, by omega, ?_⟩
    simp only [loopL, List.getElem_drop, way, walk_get]
  · rintro ⟨j, h1, h2, rfl⟩
    have hi : j - tail f n < (loopL f n).length := by rw [loopL_len, loop]; omega
    have := List.getElem_mem hi
    simp only [loopL, List.getElem_drop, way, walk_get] at this
    rw [show tail f n + (j - tail f n) = j by omega] at this
    exact this
/-- the least thing among those of the loop that the first k steps have seen; -1 ahead of it -/
def bst (f : List Int) (n : Nat) : Nat → Int
  | 0 => -1
  | k + 1 => if tail f n ≤ k ∧ (bst f n k < 0 ∨ (it f k n : Int) < bst f n k) then (it f k n : Int) else bst f n k
theorem bst_low (f : List Int) (n : Nat) : ∀ k, k ≤ tail f n → bst f n k = -1
  | 0, _ => rfl
  | k + 1, h => by rw [bst, if_neg (fun h' => by omega), bst_low f n k (by omega)]
theorem bst_spec (f : List Int) (n : Nat) : ∀ k, tail f n < k → (∃ j, tail f n ≤ j ∧ j < k ∧ bst f n k = (it f j n : Int)) ∧ ∀ j, tail f n ≤ j → j < k → bst f n k ≤ (it f j n : Int)
  | 0, h => by omega
  | k + 1, h => by
    by_cases hk : tail f n < k
    · obtain ⟨⟨j, h1, h2, e⟩, hall⟩ := bst_spec f n k hk
      by_cases hx : (it f k n : Int) < bst f n k
      · rw [bst, if_pos ⟨by omega, .inr hx⟩]
        refine ⟨⟨k, by omega, by omega, rfl⟩, fun j h3 h4 => ?_⟩
        by_cases hjk : j = k
        · subst hjk; omega
        · have := hall j h3 (by omega); omega
      · rw [bst, if_neg (fun h' => by rcases h'.2 with h5 | h5 <;> omega)]
        refine ⟨⟨j, h1, by omega, e⟩, fun j h3 h4 => ?_⟩
        by_cases hjk : j = k
        · subst hjk; omega
        · exact hall j h3 (by omega)
    · obtain rfl : k = tail f n := by omega
      rw [bst, if_pos ⟨by omega, .inl (by rw [bst_low _ _ _ (Nat.le_refl _)]; decide)⟩]
      refine ⟨⟨tail f n, by omega, by omega, rfl⟩, fun j h3 h4 => ?_⟩
      obtain rfl : j = tail f n := by omega
      exact Int.le_refl _
theorem bst_all {f : List Int} (hf : Good f) {n : Nat} (hn : n < f.length) : bst f n (rho f n) = (loopOf f n : Int) := by
  obtain ⟨⟨j, h1, h2, e⟩, hall⟩ := bst_spec f n (rho f n) (tail_lt hf hn)
  rw [e, loopOf, minL_eq (mem_loopL'.2 ⟨j, h1, h2, rfl⟩)]
  intro x hx
  obtain ⟨i, h3, h4, rfl⟩ := mem_loopL'.1 hx
  have := hall i h3 h4
  omega

end Go.Proofs.Ytkbfcaaihellfaa

/- Contracts of chapters 2 and 4: LoopOf of the reference, lots, index, idempotent maps. -/
namespace Go.Proofs.Ytkbfcaaihellfaa
open Go.RowKit
set_option linter.unusedVariables false

set_option maxHeartbeats 1000000 in
theorem sLoopOf_c (A : Option Addr) (c : Nat) (f : List Int) (t : Int) (w : World) (hR : RdA w A f) (hn : f.length ≤ 1048577) :
    Calls Try.prog 93 #[.slice A f.length c, .int .i64 t] w fun e w' => e = .returned (.int .i64 (lotV f t)) ∧ Below w.heap.size w w' := by
  have c1 := sWayFrom_c A c f t w hR hn
  by_cases h : thB f t = true
  · obtain ⟨n, rfl, hlt, hf⟩ := th_nat h
    rw [wayL_yes h] at c1
    have HE := hid ((bst_all hf hlt).trans (lotV_yes h).symm)
    have C2 := hid (fun W (hb : Below w.heap.size w W) => sTailOf_c A c f n W (hR.below hb) hn)
    rw [tailV_yes h] at C2
    have hl := rho_le hf hlt
    have hrp := rho_pos hf hlt
    have htl := tail_lt hf hlt
    have h7 := hf.1.2
    have HW := hid (way_len f n)
    have C1 := hid c1
    clear h hf c1 hR
    go_enter Try.func93, Try.ntmps93
    go_wp2_with fail
    refine C1.out.mono ?_; rintro e w2 ⟨A2, c2, rfl, ho, hb⟩
    rw [HW.out]
    obtain ⟨g, c2', e2, _, _⟩ := ho.pos (by rw [HW.out]; exact hrp)
    cases e2
    have HO := hid ho
    clear ho C1
    go_wp2_with fail
    go_loopw [6, 7] (fun b i wr => ∃ k : Nat, k ≤ rho f n ∧ i = .int .i64 k ∧ b = .int .i64 (bst f n k) ∧ Below w2.heap.size w2 wr) (fun _ i _ => rho f n - (intOf i).toNat)
    case atStart => exact ⟨0, Nat.zero_le _, rfl, rfl, Below.refl _ _⟩
    case round =>
      obtain ⟨k, hk, rfl, rfl, hb3⟩ := hrel
      have HB := hid (hb.trans (hb3.mono hb.size))
      by_cases hkr : k < rho f n
      · have c2 := C2.out wr HB.out
        have HS := hid (show bst f n (k + 1) = if tail f n ≤ k ∧ (bst f n k < 0 ∨ (it f k n : Int) < bst f n k) then (it f k n : Int) else bst f n k from rfl)
        have HO3 := hid (fun W (hb4 : Below wr.heap.size wr W) => (((HO.out.below (hb3.mono (Nat.le_refl _))).below (hb4.mono (Nat.le_refl _))).cell (k := k) (by rw [HW.out]; exact hkr)).trans (by rw [nth_way f n k hkr]))
        clear C2
        by_cases hkt : tail f n ≤ k
        · by_cases hlow : bst f n k < 0
          · have q := decide_eq_true hlow
            have HS' := hid (HS.out.trans (if_pos ⟨hkt, .inl hlow⟩))
            clear hlow
            generalize bst f n k = M at *
            generalize it f k n = X at *
            go_wp2_with fail
            refine c2.mono ?_; rintro e w4 ⟨rfl, hb4⟩
            have hc := HO3.out w4 hb4
            go_wp2_with fail
            go_roundw
            case rel => exact ⟨k + 1, by omega, by go_num, by rw [HS'.out], hb3.trans (hb4.mono hb3.size)⟩
            case measure => simp [intOf]; omega
          · have q := decide_eq_false hlow
            by_cases hx : (it f k n : Int) < bst f n k
            · have q2 := decide_eq_true hx
              have HS' := hid (HS.out.trans (if_pos ⟨hkt, .inr hx⟩))
              clear hx hlow
              generalize bst f n k = M at *
              generalize it f k n = X at *
              go_wp2_with fail
              refine c2.mono ?_; rintro e w4 ⟨rfl, hb4⟩
              have hc := HO3.out w4 hb4
              go_wp2_with fail
              go_roundw
              case rel => exact ⟨k + 1, by omega, by go_num, by rw [HS'.out], hb3.trans (hb4.mono hb3.size)⟩
              case measure => simp [intOf]; omega
            · have q2 := decide_eq_false hx
              have HS' := hid (HS.out.trans (if_neg (fun h => h.2.elim hlow hx)))
              clear hx hlow
              generalize bst f n k = M at *
              generalize it f k n = X at *
              go_wp2_with fail
              refine c2.mono ?_; rintro e w4 ⟨rfl, hb4⟩
              have hc := HO3.out w4 hb4
              go_wp2_with fail
              go_roundw
              case rel => exact ⟨k + 1, by omega, by go_num, by rw [HS'.out], hb3.trans (hb4.mono hb3.size)⟩
              case measure => simp [intOf]; omega
        · have HS' := hid (HS.out.trans (if_neg (fun h => hkt h.1)))
          generalize bst f n k = M at *
          generalize it f k n = X at *
          go_wp2_with fail
          refine c2.mono ?_; rintro e w4 ⟨rfl, hb4⟩
          go_wp2_with fail
          go_roundw
          case rel => exact ⟨k + 1, by omega, by go_num, by rw [HS'.out], hb3.trans (hb4.mono hb3.size)⟩
          case measure => simp [intOf]; omega
      · obtain rfl : k = rho f n := by omega
        rw [HE.out]
        clear C2
        go_wp2_with fail
        go_ret
        exact ⟨rfl, HB.out⟩
  · have HE := hid (lotV_no h)
    rw [wayL_no h] at c1
    clear h hR
    go_enter Try.func93, Try.ntmps93
    go_wp2_with fail
    refine c1.mono ?_; rintro e w2 ⟨A2, c2, rfl, ho, hb⟩
    rw [show ([] : List Int).length = 0 from rfl]
    go_wp2_with fail
    refine wp_loop_rounds 1 ?_
    rw [rounds_succ]
    go_wp2_with fail
    go_ret
    exact ⟨ret_int HE.out.symm, hb⟩

def indexV (f : List Int) : Int := if mapOkB f = true then (if highV f ≤ 1 then 1 else highV f) else -1



def idemB (f : List Int) : Bool := mapOkB f && decide (behindL f f = f)


end Go.Proofs.Ytkbfcaaihellfaa

/- Words for rows of slices of integers. -/
namespace Go.Proofs.Ytkbfcaaihellfaa
open Go.RowKit
set_option linter.unusedVariables false

def gl (xss : List (List Int)) (k : Nat) : List Int := xss.getD k []
/-- the slice v is the call's own and holds the values vs, slices themselves -/
def RowR (B : Nat) (w : World) (v : Value) (vs : List Value) : Prop := w.ownsRow B 22 1 v vs.length vs
def Els (B : Nat) (w : World) (vs : List Value) (xss : List (List Int)) : Prop :=
  vs.length = xss.length ∧ ∀ k, k < xss.length → ∃ A c, vs[k]? = some (.slice A (gl xss k).length c) ∧ Own B w (.slice A (gl xss k).length c) (gl xss k)
def OwnRR (B : Nat) (w : World) (v : Value) (xss : List (List Int)) : Prop := ∃ vs, RowR B w v vs ∧ Els B w vs xss

theorem own_apart_row {B B' : Nat} {w : World} {u v : Value} {xs : List Int} {vs : List Value} (h : Own B w u xs) (hr : RowR B' w v vs) : u.ownBlock = none ∨ u.ownBlock ≠ v.ownBlock := by
  rcases h.2 with ⟨rfl, _⟩ | ⟨g, cap, cur, rfl, _, hb, _⟩
  · exact .inl rfl
  · refine .inr ?_
    rcases hr.2 with ⟨rfl, _⟩ | ⟨g', cap', cur', rfl, _, hb', _⟩
    · simp [Value.ownBlock]
    · intro e
      obtain rfl : g = g' := by simpa [Value.ownBlock] using e
      rw [hb] at hb'
      simp at hb'
theorem Els.kept {B : Nat} {w w' : World} {vs : List Value} {xss : List (List Int)} {row : Option Nat} (h : Els B w vs xss) (hg : w.grownBy w' row) (hne : ∀ u xs, Own B w u xs → u.ownBlock = none ∨ u.ownBlock ≠ row) : Els B w' vs xss :=
  ⟨h.1, fun k hk => by
    obtain ⟨A, c, e, ho⟩ := h.2 k hk
    exact ⟨A, c, e, ho.kept hg (hne _ _ ho)⟩⟩
theorem OwnRR.below {B : Nat} {w w' : World} {v : Value} {xss : List (List Int)} (h : OwnRR B w v xss) (hb : Below w.heap.size w w') : OwnRR B w' v xss := by
  obtain ⟨vs, hr, hl, he⟩ := h
  refine ⟨vs, ?_, hl, fun k hk => ?_⟩
  · rcases hv : v.ownBlock with _ | g
    · exact World.ownsRow.kept hr (grown_of_below hb none) (.inl hv)
    · exact World.ownsRow.kept hr (grown_of_below hb none) (.inr (by rw [hv]; simp))
  · obtain ⟨A, c, e, ho⟩ := he k hk
    exact ⟨A, c, e, ho.below hb⟩
theorem OwnRR.mono {B B' : Nat} {w : World} {v : Value} {xss : List (List Int)} (h : OwnRR B w v xss) (hB : B' ≤ B) : OwnRR B' w v xss := by
  obtain ⟨vs, hr, hl, he⟩ := h
  refine ⟨vs, ⟨hr.1, ?_⟩, hl, fun k hk => ?_⟩
  · rcases hr.2 with h2 | ⟨g, cap, cur, hv, hg, r⟩
    · exact .inl h2
    · exact .inr ⟨g, cap, cur, hv, Nat.le_trans hB hg, r⟩
  · obtain ⟨A, c, e, ho⟩ := he k hk
    exact ⟨A, c, e, ho.mono hB⟩
theorem OwnRR.drew {B : Nat} {w : World} {v : Value} {xss : List (List Int)} (h : OwnRR B w v xss) : OwnRR B w.drew v xss := h.below (Below.refl _ _).drew
theorem OwnRR.alloc {B : Nat} {w : World} {v : Value} {xss : List (List Int)} (h : OwnRR B w v xss) (o : Obj) : OwnRR B (w.alloc o) v xss := h.below ((Below.refl _ _).alloc (Nat.le_refl _) o)
theorem OwnRR.nil (B : Nat) (w : World) : OwnRR B w (.slice none 0 0) [] := ⟨[], World.ownsRow_nil _ _ _ _, rfl, fun k hk => by simp at hk⟩
theorem OwnRR.new_ (w : World) : OwnRR w.heap.size (w.alloc (.cells #[] 22)) (.slice (some ⟨w.heap.size, 0, none⟩) 0 0) [] := by
  have := World.ownsRow_lit (base := w.heap.size) (e := 22) (size := 1) w #[] 0 (Nat.le_refl _) (by decide) (by simp)
  exact ⟨[], by unfold RowR; simpa using this, rfl, fun k hk => by simp at hk⟩
theorem OwnRR.form {B : Nat} {w : World} {v : Value} {xss : List (List Int)} (h : OwnRR B w v xss) : ∃ A c, v = .slice A xss.length c := by
  obtain ⟨vs, hr, hl, _⟩ := h
  rcases hr.2 with ⟨rfl, h0⟩ | ⟨g, cap, cur, rfl, hg, hh, r⟩
  · exact ⟨none, 0, by rw [← hl, h0]⟩
  · exact ⟨_, cap, by rw [hl]⟩
/-- the k-th of the rows -/
theorem OwnRR.at_ {B : Nat} {w : World} {A : Option Addr} {n c : Nat} {xss : List (List Int)} (h : OwnRR B w (.slice A n c) xss) {k : Nat} (hk : k < xss.length) :
    ∃ g D d, A = some ⟨g, 0, none⟩ ∧ B ≤ g ∧ w.cell? ⟨g, k, none⟩ = some (.slice D (gl xss k).length d) ∧ Own B w (.slice D (gl xss k).length d) (gl xss k) := by
  obtain ⟨vs, hr, hl, he⟩ := h
  obtain ⟨D, d, e, ho⟩ := he k hk
  have hv := hr.2
  rcases hv with ⟨e1, h0⟩ | ⟨g, cap, cur, e1, hg, hh, r⟩
  · omega
  · cases e1
    have := World.ownsRow.cells hr (g := g) rfl k _ e
    exact ⟨g, D, d, rfl, hg, by rwa [add_g] at this, ho⟩

theorem info_row : (Try.prog.info? 22).map (fun i => (i.zero, i.size, i.bytes)) = some (some (.slice none 0 0), 1, 24) := by kernel_rfl
theorem info_parts' {t : TypeId} {z : Value} {n b : Nat} (h : (Try.prog.info? t).map (fun i => (i.zero, i.size, i.bytes)) = some (some z, n, b)) : ∃ i, Try.prog.info? t = some i ∧ i.zero = some z ∧ i.size = n ∧ i.bytes = b := by
  cases hi : Try.prog.info? t with
  | none => rw [hi] at h; cases h
  | some i =>
    rw [hi] at h
    simp at h
    exact ⟨i, rfl, h.1, h.2.1, h.2.2⟩

/-- append of one slice -/
theorem wpList_appR {ops : Array Oper} {rest : List Oper} {o : Oper} {a : Act} {Q : Exit → Act → World → Prop} (w : World) (hgd : o.guard = none) (s x : Operand)
    (ho : o.op = .call { callee := .builtin .append, args := #[s, x], argTypes := #[23, 23] })
    (base : Nat) (v : Value) (xss : List (List Int)) (hs : a.eval s = v) (hown : OwnRR base w v xss) (g : Nat) (D : Option Addr) (d : Nat) (zs : List Int) (hz : Own base w (.slice D zs.length d) zs)
    (hx : a.eval x = .slice (some ⟨g, 0, none⟩) 1 1)
    (hc : w.cell? ⟨g, 0, none⟩ = some (.slice D zs.length d)) (hlen : xss.length ≤ 1000000000000) (hbase : base ≤ w.heap.size)
    (hK : ∀ A c w', OwnRR base w' (.slice A (xss.length + 1) c) (xss ++ [zs]) → Below base w w' → wpList Try.prog ops Q rest (a.put o.dst (.slice A (xss.length + 1) c)) w') : wpList Try.prog ops Q (o :: rest) a w := by
  obtain ⟨i0, hi, hz0, hz1, hz2⟩ := info_parts' info_row
  obtain ⟨vs, hr, hl, he⟩ := hown
  refine wpList_append_own w hgd s x 23 ho base 22 i0 (.slice none 0 0) 1 24 Try.underlying23 hi hz0 hz1 hz2 rfl (by decide) v vs.length vs hs hr ⟨g, 0, none⟩ 1 1 [.slice D zs.length d] hx rfl ?_ ?_ ?_ ?_ hbase ?_
  · intro j u hj
    match j, hj with
    | 0, hj => simp at hj; subst hj; simpa [Addr.add] using hc
  · intro u hu; simp at hu; subst hu; rfl
  · unfold maxLen; omega
  · omega
  · intro v' w' hown' hgrow _
    have hel : Els base w' (vs ++ [.slice D zs.length d]) (xss ++ [zs]) := by
      refine ⟨by simp [hl], fun k hk => ?_⟩
      rw [List.length_append] at hk
      by_cases hkl : k < xss.length
      · obtain ⟨A, c, e, ho⟩ := he k hkl
        have e9 : gl (xss ++ [zs]) k = gl xss k := by simp [gl, List.getD, List.getElem?_append_left hkl]
        rw [e9]
        exact ⟨A, c, by rw [List.getElem?_append_left (by omega)]; exact e, ho.kept hgrow (own_apart_row ho hr)⟩
      · obtain rfl : k = xss.length := by simp at hk; omega
        have e9 : gl (xss ++ [zs]) xss.length = zs := by simp [gl, List.getD]
        rw [e9]
        exact ⟨D, d, by rw [← hl]; simp, hz.kept hgrow (own_apart_row hz hr)⟩
    have hrow : RowR base w' v' (vs ++ [.slice D zs.length d]) := by unfold RowR; simpa using hown'
    have hall : OwnRR base w' v' (xss ++ [zs]) := ⟨_, hrow, hel⟩
    obtain ⟨A, c, e⟩ := hall.form
    rw [e] at hall ⊢
    rw [List.length_append] at hall ⊢
    exact hK A c w' hall ((Below.refl base w).grown hgrow hbase (fun k hk => (World.ownsRow.lt hr k hk).1))

end Go.Proofs.Ytkbfcaaihellfaa
