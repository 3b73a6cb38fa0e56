/- Contracts of chapter 5, the reference's: texts in order. -/
import Derived.Test.YtjipecfoiddkjaaX2
import Derived.Test.YtjipecfoiddkjaaS1
import Derived.Laws.AppendOwnNone
import Derived.BigQuiet
import Derived.Deep.QuietTactic
import Derived.Sort.Walk0
namespace Go.Proofs.Ytjipecfoiddkjaa
open Go.RowKit Go.Sort
set_option linter.unusedVariables false

theorem OwnS.store {B g n c : Nat} {w : World} {ss : List Txt} (h : OwnS B w (.slice (some ⟨g, 0, none⟩) n c) ss) (k : Nat) (u : Txt) :
    OwnS B (w.setCell ⟨g, k, none⟩ (.string (bs u))) (.slice (some ⟨g, 0, none⟩) n c) (ss.set k u) := by
  obtain ⟨A', c', e⟩ := h.form
  cases e
  have := (World.ownsRow.stored (h : w.ownsRow _ _ _ _ _ _) k (encStr u)).1
  unfold OwnS
  rw [List.map_set, List.length_set]
  exact this
theorem OwnS.keep {B B' : Nat} {w w' : World} {v : Value} {xs : List Txt} (h : OwnS B w v xs) (hlt : ∀ g, v.ownBlock = some g → g < B') (hb : Below B' w w') : OwnS B w' v xs := by
  refine ⟨h.1, ?_⟩
  rcases h.2 with h2 | ⟨g, cap, cur, hv, hg, hh, r⟩
  · exact .inl h2
  · exact .inr ⟨g, cap, cur, hv, hg, (hb.block g (hlt g (by rw [hv]; rfl))).trans hh, r⟩
/-- append of texts that are owned onto an empty row -/
theorem wpList_appTO {ops : Array Oper} {rest : List Oper} {o : Oper} {a : Act} {Q : Exit → Act → World → Prop} (w : World) (hgd : o.guard = none) (s x : Operand)
    (ho : o.op = .call { callee := .builtin .append, args := #[s, x], argTypes := #[47, 47] })
    (base B' : Nat) (v : Value) (hs : a.eval s = v) (hown : OwnS base w v []) (D : Option Addr) (ys : List Txt) (c : Nat) (hx : a.eval x = .slice D ys.length c)
    (hr : OwnS B' w (.slice D ys.length c) ys) (hlen : ys.length ≤ 1000000) (hbase : base ≤ w.heap.size)
    (hK : ∀ A c w', OwnS base w' (.slice A ys.length c) ys → Below base w w' → wpList Try.prog ops Q rest (a.put o.dst (.slice A ys.length c)) w') : wpList Try.prog ops Q (o :: rest) a w := by
  obtain ⟨i0, hi, hz0, hz1, hz2⟩ := info_partsS info_str
  have hr2 := hr.2
  rcases hr2 with ⟨e, h0⟩ | ⟨g, cap, cur, e, _⟩
  · have hy : ys = [] := List.eq_nil_of_length_eq_zero h0
    subst hy
    refine wpList_append_own_none hgd s x 47 ho base 9 i0 1 Try.underlying47 hi v 0 [] hs hown (by rw [hx, e]) ?_
    obtain ⟨A, c', e2⟩ := hown.form
    rw [e2] at hown ⊢
    exact hK A c' w hown (Below.refl _ _)
  · injection e with e1 e2 e3
    subst e1
    refine wpList_append_own w hgd s x 47 ho base 9 i0 (.string ⟨#[]⟩) 1 16 Try.underlying47 hi hz0 hz1 hz2 rfl (by decide) v 0 [] hs hown ⟨g, 0, none⟩ ys.length c (ys.map encStr) hx (by simp) ?_ ?_ ?_ ?_ hbase ?_
    · intro j u hj
      rw [List.getElem?_map] at hj
      cases hy : ys[j]? with
      | none => rw [hy] at hj; simp at hj
      | some y =>
        rw [hy] at hj
        simp at hj
        subst hj
        rw [add_g]
        exact hr.cell hy
    · intro u hu
      obtain ⟨z, _, rfl⟩ := List.mem_map.1 hu
      rfl
    · unfold maxLen; omega
    · omega
    · intro v' w' hown' hgrow _
      have ho' : OwnS base w' v' ys := by unfold OwnS; simpa using hown'
      obtain ⟨A, c', e⟩ := ho'.form
      rw [e] at ho' ⊢
      exact hK A c' w' ho' ((Below.refl base w).grown hgrow hbase (fun k hk => ((hown.lt k hk).1)))

theorem less_t {x y : Txt} (h : x < y) : Op.bytesLess (bs x).toList (bs y).toList = true := by
  have e : ∀ l : Txt, (bs l).toList = l := fun l => by simp [bs]
  rw [e, e, bytesLess_eq]
  exact decide_eq_true h
theorem less_f {x y : Txt} (h : ¬ x < y) : Op.bytesLess (bs x).toList (bs y).toList = false := by
  have e : ∀ l : Txt, (bs l).toList = l := fun l => by simp [bs]
  rw [e, e, bytesLess_eq]
  exact decide_eq_false h

set_option maxHeartbeats 4000000 in
theorem l5Sorted_c (B : Nat) (w : World) (v : Value) (ss : List Txt) (hown : OwnS B w v ss) (hlen : ss.length ≤ 1000) :
    Calls Try.prog 39 #[v] w (RetS w (sortT ss)) := by
  obtain ⟨A0, c0, rfl⟩ := hown.form
  have o0 := OwnS.new_ w
  have ho := hown.alloc (.cells #[] 9)
  have b0 : Below w.heap.size w (w.alloc (.cells #[] 9)) := (Below.refl _ _).alloc (Nat.le_refl _) _
  clear hown
  go_enter Try.func39, Try.ntmps39
  go_wp2_with (at_builtin; refine wpList_appTO _ rfl _ _ rfl w.heap.size _ _ rfl o0 A0 ss c0 rfl ho (by omega) (by simp) ?_; intro A1 c1 w1 o1 b1)
  have b1' : Below w.heap.size w w1 := b0.trans b1
  clear o0 ho b0 b1
  by_cases h0 : 0 < ss.length
  · obtain ⟨g, c', e9, hg, _, _⟩ := o1.pos h0
    cases e9
    have hz := b1'.size
    go_wp2_with fail
    go_loopw [4] (fun i wr => ∃ (P rest : List Txt), 1 ≤ P.length ∧ P.length ≤ ss.length ∧ Hid (P.length + rest.length = ss.length) ∧ i = .int .i64 P.length ∧ Hid (P.Pairwise (· ≤ ·)) ∧ Hid ((P ++ rest).Perm ss) ∧ OwnS w.heap.size wr (.slice (some ⟨g, 0, none⟩) ss.length c1) (P ++ rest) ∧ Below w.heap.size w wr) (fun i _ => ss.length - (intOf i).toNat)
    case atStart =>
      obtain ⟨x, r, e⟩ : ∃ x r, ss = x :: r := by
        cases ss with
        | nil => simp at h0
        | cons x r => exact ⟨x, r, rfl⟩
      refine ⟨[x], r, Nat.le_refl _, by simp; omega, hid (by rw [e]; simp; omega), rfl, hid (by simp), hid (by rw [e]; simp), ?_, b1'⟩
      have := o1
      rw [e] at this ⊢
      exact this
    case round =>
      clear o1 b1'
      obtain ⟨P, rest, hP1, hP2, HPL, rfl, HS, HPm, ho, hb⟩ := hrel
      by_cases hlt : P.length < ss.length
      · obtain ⟨z, r, rfl⟩ : ∃ z r, rest = z :: r := by
          cases rest with
          | nil => have := HPL.out; simp at this; omega
          | cons z r => exact ⟨z, r, rfl⟩
        rw [← cur_end] at ho
        have HCL := hid (fun j => cur_len P z r j)
        have HPN := hid (show P.length + 1 + r.length = ss.length by have := HPL.out; simp at this; omega)
        go_wp2_with fail
        go_loopw [5] (fun i wr => ∃ j : Nat, j ≤ P.length ∧ i = .int .i64 j ∧ OwnS w.heap.size wr (.slice (some ⟨g, 0, none⟩) ss.length c1) (cur P z r j) ∧ Hid (∀ x ∈ P.drop j, z ≤ x) ∧ Below w.heap.size w wr) (fun i _ => (intOf i).toNat)
        case atStart => exact ⟨P.length, Nat.le_refl _, rfl, ho, hid (by simp), hb⟩
        case round =>
          clear ho hb
          obtain ⟨j, hj, rfl, ho, HD, hb⟩ := hrel
          -- the row when z has come to place j
          have fin : ∀ wr', (∀ x ∈ P.take j, x ≤ z) → OwnS w.heap.size wr' (.slice (some ⟨g, 0, none⟩) ss.length c1) (cur P z r j) → Below w.heap.size w wr' →
              ∃ (P' rest' : List Txt), 1 ≤ P'.length ∧ P'.length ≤ ss.length ∧ Hid (P'.length + rest'.length = ss.length) ∧ Value.int .i64 ((P.length : Int) + 1) = .int .i64 P'.length ∧ Hid (P'.Pairwise (· ≤ ·)) ∧ Hid ((P' ++ rest').Perm ss) ∧ OwnS w.heap.size wr' (.slice (some ⟨g, 0, none⟩) ss.length c1) (P' ++ rest') ∧ Below w.heap.size w wr' := by
            intro wr' ht ho' hb'
            have hl : (P.take j ++ z :: P.drop j).length = P.length + 1 := by simp; omega
            have e : P.take j ++ z :: P.drop j ++ r = cur P z r j := by simp [cur]
            refine ⟨P.take j ++ z :: P.drop j, r, by omega, by omega, hid (by rw [hl]; exact HPN.out), by rw [hl]; rfl, hid (cur_sorted HS.out hj HD.out ht), hid ?_, ?_, hb'⟩
            · rw [e]; exact (cur_perm P z r j).trans HPm.out
            · rw [e]; exact ho'
          have FIN := hid fin
          clear fin
          by_cases hj0 : j = 0
          · subst hj0
            go_wp2_with fail
            go_quiet (fail)
            go_wp2_with fail
            go_roundw
            case rel => exact FIN.out _ (by simp) ho (Below.drewN' hb _)
            case measure => simp [intOf]; omega
          · obtain ⟨i, rfl⟩ : ∃ i, j = i + 1 := ⟨j - 1, by omega⟩
            have hiP : i < P.length := by omega
            have hc1 := ho.cell (cur_at (P := P) (z := z) (rest := r) hj)
            have hc2 := ho.cell (cur_before (P := P) (z := z) (rest := r) hiP)
            have q8 : IntKind.i64.wrap ((i : Int) + 1 - 1) = (i : Int) := by rw [show (i : Int) + 1 - 1 = (i : Int) by omega]; exact IntWalk.i64_in _ (by omega)
            have q7 : decide ((0 : Int) < (i : Int) + 1) = true := decide_eq_true (by omega)
            have hfi := ho.frozen i
            have hfi1 := ho.frozen (i + 1)
            by_cases hlz : z < P[i]
            · have q1 := less_t hlz
              have HN := hid (show ∀ x ∈ P.drop i, z ≤ x from fun x hx => by
                rw [List.drop_eq_getElem_cons hiP] at hx
                rcases List.mem_cons.1 hx with rfl | hx
                · exact List.le_of_lt hlz
                · exact HD.out x hx)
              have hs1 := ho.store (i + 1) P[i]
              have hc3 := hs1.cell (k := i) (x := P[i]) (by rw [List.getElem?_set_ne (by omega)]; exact cur_before hiP)
              have hf3 := hs1.frozen i
              have hs2 := hs1.store i z
              rw [cur_swap hiP] at hs2
              have hbs := (hb.setCell (p := ⟨g, i + 1, none⟩) hg (.string (bs P[i]))).setCell (p := ⟨g, i, none⟩) hg (.string (bs z))
              have HR := hid (And.intro hs2 hbs)
              clear ho hb hs1 hs2 hbs HD FIN hlz
              generalize P[i] = y at *
              go_wp2_with fail
              go_quiet (fail)
              clear q8 q7
              go_wp2_with fail
              go_roundw
              case rel => exact ⟨i, by omega, by first | rfl | go_num, HR.out.1, HN, Below.drewN' HR.out.2 _⟩
              case measure => simp [intOf]
            · have q1 := less_f hlz
              have HT := hid (take_le HS.out hiP (show P[i] ≤ z from hlz))
              have ho' := hid ho
              have hb' := hid hb
              clear ho hb HD hlz
              generalize P[i] = y at *
              go_wp2_with fail
              go_quiet (fail)
              clear q8 q7
              go_wp2_with fail
              go_roundw
              case rel => exact FIN.out _ HT.out ho'.out (Below.drewN' hb'.out _)
              case measure => simp [intOf]; omega
      · have hr : rest = [] := List.eq_nil_of_length_eq_zero (by have := HPL.out; omega)
        subst hr
        have e := sortT_unique HPm.out (by simpa using HS.out)
        rw [e] at ho
        have q1 : decide (P.length < ss.length) = false := decide_eq_false hlt
        have HL := hid (sortT_len ss)
        go_wp2_with fail
        go_ret
        refine ⟨some ⟨g, 0, none⟩, c1, by rw [HL.out]; rfl, ?_, hb⟩
        rw [HL.out]
        exact ho
  · have hs : ss = [] := List.eq_nil_of_length_eq_zero (by omega)
    subst hs
    rw [show ([] : List Txt).length = 0 from rfl]
    clear h0
    go_wp2_with fail
    refine wp_loop_rounds 1 ?_
    rw [rounds_succ]
    go_wp2_with fail
    go_ret
    rw [show sortT [] = [] by simp [sortT]]
    exact ⟨A1, c1, rfl, o1, b1'⟩

end Go.Proofs.Ytjipecfoiddkjaa
