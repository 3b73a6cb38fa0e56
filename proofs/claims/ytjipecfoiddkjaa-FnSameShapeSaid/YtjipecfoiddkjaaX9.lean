/- Contracts of chapter 5: the text of a shape; the same shape. -/
import Derived.Test.YtjipecfoiddkjaaX8
import Derived.Test.YtjipecfoiddkjaaR3
import Derived.Test.YtjipecfoiddkjaaS5
import Derived.ArgAppend
namespace Go.Proofs.Ytjipecfoiddkjaa
open Go.RowKit Go.Sort
set_option linter.unusedVariables false

/-- the first j texts with a plus sign between each two -/
def jn (S : List Txt) (j : Nat) : Txt := Lib.join (S.take j) [43]
theorem jn_one {S : List Txt} (h : 0 < S.length) : jn S 1 = jn S 0 ++ S[0] := by
  cases S with
  | nil => simp at h
  | cons x r => simp [jn, Lib.join_one, Lib.join_nil]
theorem jn_succ {S : List Txt} {j : Nat} (h0 : 0 < j) (h : j < S.length) : jn S (j + 1) = (jn S j ++ [43]) ++ S[j] := by
  cases S with
  | nil => simp at h
  | cons x r =>
    obtain ⟨i, rfl⟩ : ∃ i, j = i + 1 := ⟨j - 1, by omega⟩
    have hi : i < r.length := by simpa using h
    rw [jn, jn, List.take_succ_cons, List.take_succ_cons, Lib.join_cons, Lib.join_cons, Lib.joinTail_take_succ _ _ _ _ (List.getElem?_eq_getElem hi)]
    simp
theorem jn_len {S : List Txt} {M : Nat} (h : ∀ s ∈ S, s.length ≤ M) : ∀ j, j ≤ S.length → (jn S j).length ≤ j * (M + 1)
  | 0, _ => by simp [jn, Lib.join_nil]
  | j + 1, hj => by
    have h1 := jn_len h j (by omega)
    have h2 := h S[j] (List.getElem_mem (by omega))
    rw [Nat.succ_mul]
    by_cases h0 : 0 < j
    · rw [jn_succ h0 (by omega), List.length_append, List.length_append, List.length_singleton]; omega
    · obtain rfl : j = 0 := by omega
      rw [jn_one (by omega), List.length_append]; omega
theorem jn_all (S : List Txt) : jn S S.length = Lib.join S [43] := by rw [jn, List.take_length]

/-- the texts of a map's loops -/
def loopsT (f : List Int) : List Txt := (loopsLL f).map fun l => loopTV f (nth l 0)
def shapeT (f : List Int) : Txt := Lib.join (sortT (loopsT f)) [43]
theorem loopTV_len (f : List Int) (t : Int) : (loopTV f t).length ≤ 1879048192 := by
  rw [loopTV]
  split
  · rename_i h
    obtain ⟨n, rfl, hlt, hf⟩ := th_nat h
    have := ring_pos hf hlt
    exact best_len (M := 268435456) (ring_len7 hf.1.2 _) (by have := hf.1.2; simp at *; omega) _
  · simp
theorem loopsT_take {f : List Int} {k : Nat} (h : k < (loopsLL f).length) : (loopsT f).take (k + 1) = (loopsT f).take k ++ [loopTV f (nth (gl (loopsLL f) k) 0)] := by
  rw [List.take_add_one, loopsT, List.getElem?_map, gl, List.getD_eq_getElem?_getD, List.getElem?_eq_getElem h]; rfl
theorem loopsT_len (f : List Int) : (loopsT f).length = (loopsLL f).length := by rw [loopsT, List.length_map]
theorem loops7 (f : List Int) : (loopsLL f).length ≤ 7 := by
  by_cases h : mapOkB f = true
  · exact loopsLL_len f (good_of h).1.2
  · rw [loopsLL, if_neg h]; simp
theorem loops_long' (f : List Int) (j : Nat) (h : j < (loopsLL f).length) : 1 ≤ (gl (loopsLL f) j).length := by
  by_cases hf : mapOkB f = true
  · exact (loops_long (good_of hf) h).1
  · rw [loopsLL, if_neg hf] at h; simp at h
theorem loopsT_le (f : List Int) : ∀ s ∈ sortT (loopsT f), s.length ≤ 1879048192 := fun s hs => by
  obtain ⟨l, _, rfl⟩ := List.mem_map.1 ((sortT_perm _).mem_iff.1 hs)
  exact loopTV_len _ _
theorem add_00 (ad : Addr) : ad.add 0 = ad := by cases ad; simp [Addr.add]

/-- append of one text onto an empty row that is full -/
theorem wpList_appT0 {ops : Array Oper} {rest : List Oper} {o : Oper} {a : Act} {Q : Exit → Act → World → Prop} (w : World) (hgd : o.guard = none) (s x : Operand)
    (ho : o.op = .call { callee := .builtin .append, args := #[s, x], argTypes := #[47, 47] })
    (ad : Addr) (hs : a.eval s = .slice (some ad) 0 0) (g : Nat) (z : Txt) (hx : a.eval x = .slice (some ⟨g, 0, none⟩) 1 1) (hc : w.cell? ⟨g, 0, none⟩ = some (.string (bs z)))
    (hK : ∀ A c w', OwnS w.heap.size w' (.slice A 1 c) [z] → Below w.heap.size w w' → wpList Try.prog ops Q rest (a.put o.dst (.slice A 1 c)) w') : wpList Try.prog ops Q (o :: rest) a w := by
  obtain ⟨i0, hi, hz0, hz1, hz2⟩ := info_partsS info_str
  refine wpList_append_grows w hgd s x 47 ho 9 i0 (.string ⟨#[]⟩) 1 16 Try.underlying47 hi hz0 hz1 hz2 rfl (by decide) (some ad) 0 0 [] hs (fun h => by cases h) rfl (fun b _ j u hj => by simp at hj) ⟨g, 0, none⟩ 1 1 [.string (bs z)] hx rfl ?_ ?_ (by omega) (by unfold maxLen; omega) (by omega) ?_
  · intro j u hj
    match j, hj with
    | 0, hj => simp at hj; subst hj; simpa [Addr.add] using hc
  · intro u hu; simp at hu; subst hu; rfl
  · intro v' w' hown' hgrow
    have ho' : OwnS w.heap.size w' v' [z] := by unfold OwnS; simpa [encStr_bs] using hown'
    obtain ⟨A, c, e⟩ := ho'.form
    rw [e] at ho' ⊢
    exact hK A c w' ho' ((Below.refl _ w).grown hgrow (Nat.le_refl _) (fun k hk => by cases hk))

set_option maxHeartbeats 4000000 in
theorem iShapeText_c (A : Option Addr) (c : Nat) (f : List Int) (w : World) (hR : RdA w A f) (hn : f.length ≤ 1048577) :
    Calls Try.prog 16 #[.slice A f.length c] w fun e w' => e = .returned (.string (bs (shapeT f))) ∧ Below w.heap.size w w' := by
  have c1 := hid (iLoopsOf_c A c f w hR hn)
  have C2 := hid (fun t W (hb : Below w.heap.size w W) => iLoopText_c A c f t W (hR.below hb) hn)
  have HT := hid (fun k (h : k < (loopsLL f).length) => loopsT_take h)
  have HLO := hid (loops_long' f)
  have H7 := hid (loops7 f)
  have HTL := hid (loopsT_len f)
  have HSL := hid (loopsT_le f)
  have HE := hid (show shapeT f = Lib.join (sortT (loopsT f)) [43] from rfl)
  clear hR
  generalize loopsLL f = L at *
  generalize loopsT f = T at *
  go_enter Try.func16, Try.ntmps16
  go_wp2_with fail
  refine c1.out.mono ?_; rintro e w2 ⟨D, d, rfl, hrr, b2⟩
  clear c1
  have hLL : L.length ≤ 7 := H7.out
  go_wp2_with fail
  go_loopw [3, 9] (fun v i wr => ∃ k : Nat, k ≤ L.length ∧ i = .int .i64 k ∧ OwnS w2.heap.size wr v (T.take k) ∧ OwnRR w.heap.size wr (.slice D L.length d) L ∧ Below w2.heap.size w2 wr) (fun _ i _ => L.length - (intOf i).toNat)
  case atStart => exact ⟨0, Nat.zero_le _, rfl, OwnS.nil _ _, hrr, Below.refl _ _⟩
  case round =>
    obtain ⟨k, hk, rfl, ho, -, hb⟩ := hrel
    have hbw := b2.trans (hb.mono b2.size)
    by_cases hlt : k < L.length
    · obtain ⟨g, E, e0, rfl, hg, hc, hr0⟩ := (hrr.below hb).at_ hlt
      obtain ⟨ad, rfl, hc0⟩ := hr0.rd 0 (HLO.out k hlt)
      rw [add_00] at hc0
      have hlp : 0 < (gl L k).length := HLO.out k hlt
      have HN := HT.out k hlt
      have K2 := hid (C2.out (nth (gl L k) 0) wr hbw)
      have HK := hid (show (T.take k).length ≤ 7 by rw [List.length_take]; have := HTL.out; omega)
      have HN := hid HN
      clear hr0
      generalize loopTV f (nth (gl L k) 0) = Y at *
      generalize nth (gl L k) 0 = X at *
      generalize (gl L k).length = Z at *
      generalize T.take k = M at *
      go_wp2_with fail
      refine K2.out.mono ?_; rintro e w5 ⟨rfl, b5⟩
      have hb5 := hb.trans (b5.mono hb.size)
      have ho5 := ho.below b5
      have hsz := hb5.size
      clear ho hb hbw K2 hc hc0
      go_wp2_with (at_builtin; refine wpList_appT _ rfl _ _ rfl w2.heap.size _ M rfl (ho5.alloc _) w5.heap.size Y rfl (cell_one1 _ _ _) (by have := HK.out; omega) (by simp <;> omega) ?_; intro A4 c4 w4 o4 b4)
      have b4' : Below w2.heap.size w2 w4 := (hb5.alloc hsz _).trans b4
      clear b4
      go_wp2_with fail
      go_roundw
      case rel => exact ⟨k + 1, by omega, by go_num, by rw [HN.out]; exact o4, hrr.below b4', b4'⟩
      case measure => simp [intOf]; omega
    · obtain rfl : k = L.length := by omega
      rw [← HTL.out, List.take_length] at ho
      have HT7 := hid (show T.length ≤ 7 by rw [HTL.out]; omega)
      have K3 := hid (inOrder_c w2.heap.size wr _ T ho (by have := HT7.out; omega))
      have HS7 := hid (show (sortT T).length ≤ 7 by rw [sortT_len]; exact HT7.out)
      clear C2 HT HLO ho HTL
      generalize sortT T = S at *
      obtain ⟨K, hK⟩ : ∃ K, Lib.join S [43] = K := ⟨_, rfl⟩
      have HJ := hid (show (Lib.join S [43]).length ≤ 140737488355328 by rw [← jn_all]; exact Nat.le_trans (jn_len HSL.out _ (Nat.le_refl _)) (Nat.le_trans (Nat.mul_le_mul_right _ HS7.out) (by omega)))
      have K4 := hid (fun W v (ho : OwnS wr.heap.size W v S) => join_c wr.heap.size W v S [43] ho (by have := HS7.out; omega) HJ.out)
      rw [hK] at HE K4
      clear hK HJ
      go_wp2_with fail
      refine K3.out.mono ?_; rintro e w6 ⟨A5, c5, rfl, o5, b5⟩
      have k4 := hid (K4.out w6 _ o5)
      go_wp2_with fail
      refine k4.out.mono ?_; rintro e w7 ⟨rfl, b7⟩
      go_wp2_with fail
      go_ret
      rw [HE.out]
      exact ⟨rfl, (hbw.trans (b5.mono hbw.size)).trans (b7.mono (Nat.le_trans hbw.size b5.size))⟩

end Go.Proofs.Ytjipecfoiddkjaa
