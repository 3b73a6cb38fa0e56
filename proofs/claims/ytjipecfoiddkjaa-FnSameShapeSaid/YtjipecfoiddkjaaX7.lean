/- Contracts of chapter 5: the text of a loop, the reference's. -/
import Derived.Test.YtjipecfoiddkjaaX6
import Derived.Test.YtjipecfoiddkjaaQ11
namespace Go.Proofs.Ytjipecfoiddkjaa
open Go.RowKit Go.Sort
set_option linter.unusedVariables false

/-- the row of texts, begun at place k, in one -/
def rot (ss : List Txt) (k : Nat) : Txt := (ss.drop k ++ ss.take k).flatten
def rotN (ss : List Txt) (k m : Nat) : Txt := ((List.range m).map fun i => ss.getD ((k + i) % ss.length) []).flatten
theorem rotN_zero (ss : List Txt) (k : Nat) : rotN ss k 0 = [] := rfl
theorem rotN_succ (ss : List Txt) (k m : Nat) : rotN ss k (m + 1) = rotN ss k m ++ ss.getD ((k + m) % ss.length) [] := by
  simp [rotN, List.range_succ]
theorem rotN_end {ss : List Txt} {k : Nat} (h : k < ss.length) : rotN ss k ss.length = rot ss k := by
  rw [rotN, rot]
  congr 1
  apply List.ext_getElem
  · simp; omega
  · intro i h1 h2
    simp only [List.getElem_map, List.getElem_range]
    rw [List.length_map, List.length_range] at h1
    rw [List.getElem_append]
    split
    · rename_i h3
      rw [List.length_drop] at h3
      rw [Nat.mod_eq_of_lt (by omega), List.getD_eq_getElem?_getD, List.getElem?_eq_getElem (by omega), List.getElem_drop]; rfl
    · rename_i h3
      rw [List.length_drop] at h3
      have e : (k + i) % ss.length = i - (ss.length - k) := by
        rw [show k + i = (i - (ss.length - k)) + ss.length by omega, Nat.add_mod_right, Nat.mod_eq_of_lt (by omega)]
      rw [e, List.getD_eq_getElem?_getD, List.getElem?_eq_getElem (by omega), List.getElem_take, Option.getD_some]
      congr 1
      simp
theorem rot_zero (ss : List Txt) : rot ss 0 = ss.flatten := by simp [rot]
theorem mem_len {ss : List Txt} {M : Nat} (h : ∀ s ∈ ss, s.length ≤ M) (i : Nat) : (ss.getD i []).length ≤ M := by
  rw [List.getD_eq_getElem?_getD]
  cases hx : ss[i]? with
  | none => simp
  | some x => exact h x (List.mem_of_getElem? hx)
theorem rotN_len {ss : List Txt} {M : Nat} (h : ∀ s ∈ ss, s.length ≤ M) (k : Nat) : ∀ m, (rotN ss k m).length ≤ m * M
  | 0 => by simp [rotN]
  | m + 1 => by
    have := rotN_len h k m
    have h2 := mem_len h ((k + m) % ss.length)
    rw [rotN_succ, List.length_append, Nat.succ_mul]
    omega
/-- the least of the texts begun at the first k places -/
def bestT (ss : List Txt) : Nat → Txt
  | 0 => ss.flatten
  | k + 1 => if rot ss k < bestT ss k then rot ss k else bestT ss k
theorem bestT_one (ss : List Txt) : bestT ss 1 = rot ss 0 := by
  simp only [bestT, rot_zero, ite_self]
theorem bestT_yes {ss : List Txt} {k : Nat} (h : rot ss k < bestT ss k) : bestT ss (k + 1) = rot ss k := if_pos h
theorem bestT_no {ss : List Txt} {k : Nat} (h : ¬ rot ss k < bestT ss k) : bestT ss (k + 1) = bestT ss k := if_neg h
def bestV (ss : List Txt) (k : Nat) : Txt := if k = 0 then [] else bestT ss k
/-- the trees of a loop, from its least thing on -/
def ringT (f : List Int) (n : Nat) : List Txt := (way f (loopOf f n)).map (tree f)
def loopT (f : List Int) (n : Nat) : Txt := bestT (ringT f n) (ringT f n).length
def loopTV (f : List Int) (t : Int) : Txt := if thB f t = true then loopT f t.toNat else []
theorem ring_len (f : List Int) (n : Nat) : (ringT f n).length = rho f (loopOf f n) := by rw [ringT, List.length_map, way, walk_len]
theorem ring_pos {f : List Int} (hf : Good f) {n : Nat} (hn : n < f.length) : 1 ≤ (ringT f n).length ∧ (ringT f n).length ≤ f.length := by
  rw [ring_len]
  exact ⟨rho_pos hf (loopOf_lt hf hn), rho_le hf (loopOf_lt hf hn)⟩
theorem ring_len7 {f : List Int} (h7 : f.length ≤ 7) (n : Nat) : ∀ s ∈ ringT f n, s.length ≤ 268435456 := fun s hs => by
  obtain ⟨x, _, rfl⟩ := List.mem_map.1 hs
  exact tree_len h7 x
theorem ring_at {f : List Int} (hf : Good f) {n : Nat} (hn : n < f.length) {j : Nat} (hj : j < (ringT f n).length) :
    ∃ m : Nat, m < f.length ∧ nth (ints (way f (loopOf f n))) j = m ∧ (ringT f n)[j]? = some (tree f m) := by
  have hl : j < (walk f (loopOf f n) (rho f (loopOf f n))).length := by rw [ring_len] at hj; rwa [walk_len]
  refine ⟨it f j (loopOf f n), hf.it_lt (loopOf_lt hf hn) j, ?_, ?_⟩
  · have h2 : j < (ints (way f (loopOf f n))).length := by rw [way_len, ← ring_len]; exact hj
    rw [nth_lt h2]
    simp [ints, way, walk_get]
  · rw [ringT, List.getElem?_map, way, List.getElem?_eq_getElem hl, walk_get]; rfl
theorem ring_eqlen (f : List Int) (n : Nat) : (ints (way f (loopOf f n))).length = (ringT f n).length := by rw [way_len, ring_len]
theorem best_len {ss : List Txt} {M : Nat} (h : ∀ s ∈ ss, s.length ≤ M) (h7 : ss.length ≤ 7) : ∀ k, (bestT ss k).length ≤ 7 * M
  | 0 => Nat.le_trans (flat_le h) (Nat.mul_le_mul_right M h7)
  | k + 1 => by
    rw [bestT]
    split
    · refine Nat.le_trans (flat_le (M := M) fun s hs => ?_) (Nat.mul_le_mul_right M (show _ ≤ 7 by simp; omega))
      rcases List.mem_append.1 hs with h1 | h1
      · exact h s (List.mem_of_mem_drop h1)
      · exact h s (List.mem_of_mem_take h1)
    · exact best_len h h7 k

set_option maxHeartbeats 4000000 in
theorem sLoopText_c (A : Option Addr) (c : Nat) (f : List Int) (t : Int) (w : World) (hR : RdA w A f) (hn : f.length ≤ 1048577) :
    Calls Try.prog 38 #[.slice A f.length c, .int .i64 t] w fun e w' => e = .returned (.string (bs (loopTV f t))) ∧ Below w.heap.size w w' := by
  have c1 := sTreeText_c A c f t w hR hn
  by_cases ht : thB f t = true
  · obtain ⟨n, rfl, hlt, hf⟩ := th_nat ht
    obtain ⟨r1, r2⟩ := ring_pos hf hlt
    have h7 := hf.1.2
    rw [show treeV f n = tree f n by rw [treeV, if_pos ht, Int.toNat_natCast], tree_eq hf hlt] at c1
    generalize (sortT ((childs f n f.length).map (tree f))).flatten ++ [41] = Z at *
    have q0 : (bs (40 :: Z)).toList.isEmpty = false := by rw [ByteArray.toList_eq]; simp [bs]
    have HE := hid (show loopTV f n = loopT f n by rw [loopTV, if_pos ht, Int.toNat_natCast])
    have C2 := hid (fun W (hb : Below w.heap.size w W) => sLoopOf_c A c f n W (hR.below hb) hn)
    rw [lotV_yes ht] at C2
    have C3 := hid (fun W (hb : Below w.heap.size w W) => sWayFrom_c A c f (loopOf f n : Nat) W (hR.below hb) hn)
    rw [wayL_yes (th_of hf (loopOf_lt hf hlt))] at C3
    have C4 := hid (fun m W (hm : m < f.length) (hb : Below w.heap.size w W) => sTree_in A c f hf 7 m W hm (by omega) (hR.below hb))
    have HT := hid (fun j (hj : j < (ringT f n).length) => ring_at hf hlt hj)
    have HM := hid (ring_len7 h7 n)
    rw [loopT] at HE
    have HLE := hid (ring_eqlen f n)
    have HL7 := hid (show (ringT f n).length ≤ 7 by omega)
    have HL1 := hid r1
    clear hf hR ht r1 r2
    generalize loopOf f n = lo at *
    generalize ringT f n = ss at *
    go_enter Try.func38, Try.ntmps38
    go_wp2_with fail
    refine c1.mono ?_; rintro e w1 ⟨rfl, b1⟩
    clear c1
    go_wp2_with fail
    refine (C2.out w1 b1).mono ?_; rintro e w2 ⟨rfl, b2⟩
    have b2' := b1.trans (b2.mono b1.size)
    go_wp2_with fail
    refine (C3.out w2 b2').mono ?_; rintro e w3 ⟨D, d, rfl, o3, b3⟩
    have b3' := b2'.trans (b3.mono b2'.size)
    clear C2 C3 b1 b2 b3
    generalize ints (way f lo) = L at *
    have hLL : L.length ≤ 7 := by rw [HLE.out]; exact HL7.out
    have hL1 : 1 ≤ L.length := by rw [HLE.out]; exact HL1.out
    have HR3 := hid o3.rd
    clear b2' o3
    go_wp2_with fail
    go_loopw [6, 7] (fun v i wr => ∃ k : Nat, k ≤ L.length ∧ i = .int .i64 k ∧ v = .string (bs (bestV ss k)) ∧ RdA wr D L ∧ Below w.heap.size w wr) (fun _ i _ => L.length - (intOf i).toNat)
    case atStart => exact ⟨0, Nat.zero_le _, rfl, rfl, HR3.out, b3'⟩
    case round =>
      clear b3'
      obtain ⟨k, hk, rfl, rfl, hrd, hb⟩ := hrel
      by_cases hlk : k < L.length
      · have HKL := hid hlk
        go_wp2_with fail
        go_loopw [8, 9] (fun s j wr2 => ∃ m : Nat, m ≤ L.length ∧ j = .int .i64 m ∧ s = .string (bs (rotN ss k m)) ∧ RdA wr2 D L ∧ Below w.heap.size w wr2) (fun _ j _ => L.length - (intOf j).toNat)
        case atStart => exact ⟨0, Nat.zero_le _, rfl, rfl, hrd, hb⟩
        case round =>
          clear hrd hb
          obtain ⟨m, hm, rfl, rfl, hrd, hb⟩ := hrel
          have hX := rotN_len HM.out k m
          by_cases hlm : m < L.length
          · have hq : (k + m) % L.length < L.length := Nat.mod_lt _ (by omega)
            obtain ⟨u, hu, hnu, hsu⟩ := HT.out ((k + m) % L.length) (by rw [← HLE.out]; exact hq)
            have HRD := hid hrd
            obtain ⟨ad, rfl, hc⟩ := hrd _ hq
            rw [hnu] at hc
            have HN := hid (show rotN ss k (m + 1) = rotN ss k m ++ tree f u by rw [rotN_succ, ← HLE.out, List.getD_eq_getElem?_getD, hsu]; rfl)
            have hY := tree_len h7 u
            have hq2 := str_add (rotN ss k m) (tree f u) (by have := Nat.mul_le_mul_right 268435456 (show m ≤ 7 by omega); omega)
            have K4 := hid (C4.out u wr hu hb)
            have e1 : IntKind.i64.wrap ((k : Int) + (m : Int)) = ((k + m : Nat) : Int) := by rw [← Int.natCast_add]; exact IntWalk.i64_in _ (by omega)
            have e2 : Int.tmod ((k + m : Nat) : Int) (L.length : Int) = (((k + m) % L.length : Nat) : Int) := by rw [Int.tmod_eq_emod_of_nonneg (by omega)]; exact (Int.natCast_emod _ _).symm
            have e5 : 0 ≤ ((k : Int) + (m : Int)) % (L.length : Int) := Int.emod_nonneg _ (by omega)
            have e6 : ((k : Int) + (m : Int)) % (L.length : Int) < (L.length : Int) := Int.emod_lt_of_pos _ (by omega)
            clear hX hY hsu hnu
            generalize tree f u = Y at *
            generalize rotN ss k m = X at *
            go_wp2_with fail
            refine K4.out.mono ?_; rintro e w5 ⟨rfl, b5⟩
            go_wp2_with fail
            go_roundw
            case rel => exact ⟨m + 1, by omega, by go_num, by rw [HN.out], HRD.out.below b5, hb.trans (b5.mono hb.size)⟩
            case measure => simp [intOf]; omega
          · obtain rfl : m = L.length := by omega
            clear hX
            rw [show rotN ss k L.length = rot ss k by rw [HLE.out]; exact rotN_end (by rw [← HLE.out]; exact hlk)]
            by_cases hk0 : k = 0
            · subst hk0
              have HB := hid (show bestV ss 1 = rot ss 0 from bestT_one ss)
              generalize rot ss 0 = X at *
              go_wp2_with fail
              go_roundw
              case rel => exact ⟨1, by omega, by go_num, by rw [HB.out], hrd, hb⟩
              case measure => simp [intOf]; omega
            · have q1 : ((k : Int) == 0) = false := by simp; omega
              have HV : bestV ss k = bestT ss k := if_neg hk0
              rw [HV]
              by_cases hl : rot ss k < bestT ss k
              · have HB := hid (show bestV ss (k + 1) = rot ss k from (if_neg (by omega)).trans (bestT_yes hl))
                have hls := less_t hl
                clear hl HV hk0
                generalize rot ss k = X at *
                generalize bestT ss k = Y at *
                go_wp2_with fail
                go_roundw
                case rel => exact ⟨k + 1, by omega, by go_num, by rw [HB.out], hrd, hb⟩
                case measure => simp [intOf]; omega
              · have HB := hid (show bestV ss (k + 1) = bestT ss k from (if_neg (by omega)).trans (bestT_no hl))
                have hls := less_f hl
                clear hl HV hk0
                generalize rot ss k = X at *
                generalize bestT ss k = Y at *
                go_wp2_with fail
                go_roundw
                case rel => exact ⟨k + 1, by omega, by go_num, by rw [HB.out], hrd, hb⟩
                case measure => simp [intOf]; omega
      · obtain rfl : k = L.length := by omega
        rw [show bestV ss L.length = loopTV f n by rw [bestV, if_neg (by omega), HLE.out, HE.out]]
        go_wp2_with fail
        go_ret
        exact ⟨rfl, hb⟩
  · have HE := hid (show loopTV f t = [] from if_neg ht)
    rw [show treeV f t = [] from if_neg ht] at c1
    have q0 : (bs []).toList.isEmpty = true := by simp [bs]
    clear ht hR
    go_enter Try.func38, Try.ntmps38
    go_wp2_with fail
    refine c1.mono ?_; rintro e w' ⟨rfl, b⟩
    go_wp2_with fail
    go_ret
    rw [HE.out]
    exact ⟨rfl, b⟩

end Go.Proofs.Ytjipecfoiddkjaa
