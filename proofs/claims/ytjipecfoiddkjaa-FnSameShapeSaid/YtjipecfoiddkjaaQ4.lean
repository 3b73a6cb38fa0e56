/- Contracts of chapter 1: turned maps; names. -/
import Derived.Test.YtjipecfoiddkjaaQ3
namespace Go.Proofs.Ytjipecfoiddkjaa
open Go.RowKit
set_option linter.unusedVariables false

/-- the things to which the first k are led -/
def imgs (f : List Int) (k : Nat) : List Nat := (List.range k).map (ap f)
theorem imgs_succ (f : List Int) (k : Nat) : imgs f (k + 1) = imgs f k ++ [ap f k] := by simp [imgs, List.range_succ]
theorem mem_imgs {f : List Int} {k x : Nat} : x ∈ imgs f k ↔ ∃ j, j < k ∧ ap f j = x := by simp [imgs]
theorem imgs_lt {f : List Int} (h : Good f) {k : Nat} (hk : k ≤ f.length) : ∀ x ∈ imgs f k, x < 8 := by
  intro x hx
  obtain ⟨j, hj, rfl⟩ := mem_imgs.1 hx
  have := h.ap_lt (show j < f.length by omega)
  have := h.1.2
  omega
/-- what has been led back behind k steps -/
def bk (f : List Int) : Nat → List Int
  | 0 => List.replicate f.length 0
  | k + 1 => (bk f k).set (ap f k) (k : Int)
theorem bk_len (f : List Int) : ∀ k, (bk f k).length = f.length
  | 0 => by simp [bk]
  | k + 1 => by simp [bk, bk_len f k]
theorem bk_nth {f : List Int} (hf : Good f) (hi : Inj f) : ∀ k, k ≤ f.length → ∀ j, j < k → nth (bk f k) (ap f j) = (j : Int)
  | 0, _, j, hj => by omega
  | k + 1, hk, j, hj => by
    have hl := hf.ap_lt (show k < f.length by omega)
    rw [bk]
    by_cases e : j = k
    · subst e
      simp [nth, bk_len, hl]
    · have hne : ap f k ≠ ap f j := fun h => e (hi j k (by omega) (by omega) h.symm)
      have := bk_nth hf hi k (by omega) j (by omega)
      simpa [nth, List.getElem?_set, hne] using this
theorem bk_all {f : List Int} (hf : Good f) (hi : Inj f) : bk f f.length = mk f.length (back f) := by
  refine ext_nth (by rw [bk_len, mk_len]) fun x hx => ?_
  rw [bk_len] at hx
  obtain ⟨k, hk, rfl⟩ := inj_surj hf hi hx
  rw [bk_nth hf hi _ (Nat.le_refl _) k hk, nth_mk hx, back_ap hf hi hk]
/-- a map turned round and the word whether there is one are handed back -/
def TurnR (w : World) (xs : List Int) (b : Bool) (e : Ending) (w' : World) : Prop := ∃ A c, e = .returned (.tuple #[.slice A xs.length c, .bool b]) ∧ Own w.heap.size w' (.slice A xs.length c) xs ∧ Below w.heap.size w w' ∧ (xs = [] → A = none ∧ c = 0)
theorem TurnR.no (w : World) {w' : World} (hb : Below w.heap.size w w') : TurnR w [] false (.returned (.tuple #[.slice none 0 0, .bool false])) w' := ⟨none, 0, rfl, Own.nil _ _, hb, fun _ => ⟨rfl, rfl⟩⟩

theorem turnR_mk {w wr : World} {n c : Nat} {A : Option Addr} {F : Nat → Nat} {L : List Int} {b : Bool} (h : L = mk n F) (ho : Own w.heap.size wr (.slice A n c) (mk n F)) (hb : Below w.heap.size w wr) (hn : 1 ≤ n) : TurnR w L b (.returned (.tuple #[.slice A n c, .bool b])) wr := by
  subst h
  refine ⟨A, c, by rw [mk_len], by rw [mk_len]; exact ho, hb, fun e => ?_⟩
  have := congrArg List.length e
  rw [mk_len] at this
  simp at this
  omega

set_option maxHeartbeats 400000 in
theorem iTurnedOf_c (A : Option Addr) (c : Nat) (f : List Int) (w : World) (hR : RdA w A f) (hn : f.length ≤ 1048577) :
    Calls Try.prog 13 #[.slice A f.length c] w (TurnR w (turnedL f) (turnedB f)) := by
  have c1 := iMapOk_c A c f w hR hn
  by_cases hf : mapOkB f = true
  · rw [hf] at c1
    have gf := good_of hf
    have HG := hid gf
    have h1 := gf.1.1
    have h7 := gf.1.2
    have C1 := hid c1
    clear hf gf c1
    go_enter Try.func13, Try.ntmps13
    go_wp2_with fail
    refine C1.out.mono ?_; rintro e w' ⟨rfl, rfl⟩
    go_wp2_with (at_make; refine wpList_mk _ rfl _ _ rfl _ f.length rfl rfl rfl (by omega) ?_; intro w1 hown hb)
    go_loopw [5, 16] (fun s i wr => ∃ k : Nat, k ≤ f.length ∧ i = .int .i64 k ∧ s = .int .i64 (mask (imgs f k)) ∧ Hid (∀ i j, i < k → j < k → ap f i = ap f j → i = j) ∧ Own w.heap.size wr (.slice (some ⟨w.heap.size, 0, none⟩) f.length f.length) (bk f k) ∧ Below w.heap.size w wr) (fun _ i _ => f.length - (intOf i).toNat)
    case atStart => exact ⟨0, Nat.zero_le _, rfl, rfl, hid (fun i j hi => by omega), hown, hb⟩
    case round =>
      clear hown hb
      obtain ⟨k, hk, rfl, rfl, hinj, hown, hb⟩ := hrel
      by_cases hlt : k < f.length
      · obtain ⟨ad, rfl, hc⟩ := (hR.below hb) k hlt
        have hlt2 := HG.out.ap_lt hlt
        rw [HG.out.nth_ap hlt] at hc
        have q2 := mask_and (l := imgs f k) (x := ap f k) (imgs_lt HG.out hk) (by omega)
        have q1 := mask_or (l := imgs f k) (x := ap f k) (imgs_lt HG.out hk) (by omega)
        rw [← imgs_succ] at q1
        by_cases hm : ap f k ∈ imgs f k
        · rw [decide_eq_true hm, Bool.not_true] at q2
          have HN := hid (show turnedB f = false by
            cases hB : turnedB f with
            | false => rfl
            | true =>
              obtain ⟨j, hj, e⟩ := mem_imgs.1 hm
              have := (turnedB_iff.1 hB).2 j k (by omega) hlt e
              omega)
          clear hm hown hR q1
          generalize mask (imgs f k) = M at *
          generalize ap f k = X at *
          go_wp2
          go_ret2
          rw [show turnedL f = [] by rw [turnedL, if_neg (by rw [HN.out]; simp)], HN.out]
          exact TurnR.no w hb
        · rw [decide_eq_false hm, Bool.not_false] at q2
          have HI := hid (show ∀ i j, i < k + 1 → j < k + 1 → ap f i = ap f j → i = j by
            intro i j hi hj e
            by_cases hik : i = k
            · by_cases hjk : j = k
              · omega
              · exact absurd (mem_imgs.2 ⟨j, by omega, by rw [← e, hik]⟩) hm
            · by_cases hjk : j = k
              · exact absurd (mem_imgs.2 ⟨i, by omega, by rw [e, hjk]⟩) hm
              · exact hinj.out i j (by omega) (by omega) e)
          have hc2 := hown.cell (k := ap f k) (by rw [bk_len]; exact hlt2)
          have hf2 := hown.frozen (ap f k)
          have hs := hown.store (ap f k) (k : Int)
          rw [show (bk f k).set (ap f k) (k : Int) = bk f (k + 1) from rfl] at hs
          have hbs := hb.setCell (p := ⟨w.heap.size, ap f k, none⟩) (Nat.le_refl _) (.int .i64 (k : Int))
          clear hown hb hR hm hinj
          generalize hM' : mask (imgs f (k + 1)) = M' at *
          have HM := hid hM'
          clear hM'
          generalize mask (imgs f k) = M at *
          generalize ap f k = X at *
          go_wp2
          go_roundw
          case rel => exact ⟨k + 1, by omega, by go_num, by rw [HM.out], HI, hs, hbs⟩
          case measure => simp [intOf]; omega
      · obtain rfl : k = f.length := by omega
        have hI : Inj f := fun i j hi hj e => hinj.out i j hi hj e
        have HN := hid (turnedB_iff.2 ⟨HG.out, hI⟩)
        rw [bk_all HG.out hI] at hown
        clear hR hI hinj
        generalize mask (imgs f f.length) = M at *
        go_wp2
        go_ret2
        rw [HN.out]
        exact turnR_mk (by rw [turnedL, if_pos HN.out]) hown hb (by omega)
  · rw [show mapOkB f = false by simpa using hf] at c1
    have HN := hid (show turnedB f = false by simp [turnedB, hf])
    clear hf hR
    go_enter Try.func13, Try.ntmps13
    go_wp2_with fail
    refine c1.mono ?_; rintro e w' ⟨rfl, rfl⟩
    go_wp2_with fail
    go_ret2
    rw [show turnedL f = [] by rw [turnedL, if_neg (by rw [HN.out]; simp)], HN.out]
    exact TurnR.no w (Below.refl _ _)

end Go.Proofs.Ytjipecfoiddkjaa
