/- Words for slices of texts; texts put in order, joined. -/
import Derived.Test.YtjipecfoiddkjaaM1
import Derived.Test.YtjipecfoiddkjaaQ6
import Derived.Test.YtjipecfoiddkjaaShelf
import Derived.Sort.OwnSorted
namespace Go.Proofs.Ytjipecfoiddkjaa
open Go.RowKit Go.Sort
set_option linter.unusedVariables false

abbrev Txt := List UInt8
def bs (l : Txt) : ByteArray := ⟨l.toArray⟩
theorem encStr_bs (l : Txt) : encStr l = .string (bs l) := rfl
theorem bs_list (l : Txt) : (bs l).data.toList = l := by simp [bs]
theorem bs_size (l : Txt) : (bs l).size = l.length := by simp [bs, ByteArray.size]
theorem bs_inj {l r : Txt} (h : bs l = bs r) : l = r := by rw [← bs_list l, h, bs_list]

def OwnS (B : Nat) (w : World) (v : Value) (ss : List Txt) : Prop := w.ownsRow B 9 1 v ss.length (ss.map encStr)
theorem OwnS.kept {B : Nat} {w w' : World} {v : Value} {ss : List Txt} {row : Option Nat} (h : OwnS B w v ss) (hg : w.grownBy w' row) (hne : v.ownBlock = none ∨ v.ownBlock ≠ row) : OwnS B w' v ss := World.ownsRow.kept h hg hne
theorem OwnS.below {B : Nat} {w w' : World} {v : Value} {ss : List Txt} (h : OwnS B w v ss) (hb : Below w.heap.size w w') : OwnS B w' v ss := by
  rcases hv : v.ownBlock with _ | g
  · exact h.kept (grown_of_below hb none) (.inl hv)
  · exact h.kept (grown_of_below hb none) (.inr (by rw [hv]; simp))
theorem OwnS.mono {B B' : Nat} {w : World} {v : Value} {ss : List Txt} (h : OwnS B w v ss) (hB : B' ≤ B) : OwnS B' w v ss := by
  refine ⟨h.1, ?_⟩
  rcases h.2 with h2 | ⟨g, cap, cur, hv, hg, r⟩
  · exact .inl h2
  · exact .inr ⟨g, cap, cur, hv, Nat.le_trans hB hg, r⟩
theorem OwnS.alloc {B : Nat} {w : World} {v : Value} {ss : List Txt} (h : OwnS B w v ss) (o : Obj) : OwnS B (w.alloc o) v ss := h.below ((Below.refl _ _).alloc (Nat.le_refl _) o)
theorem OwnS.drew {B : Nat} {w : World} {v : Value} {ss : List Txt} (h : OwnS B w v ss) : OwnS B w.drew v ss := h
theorem OwnS.lt {B : Nat} {w : World} {v : Value} {ss : List Txt} (h : OwnS B w v ss) : ∀ k, v.ownBlock = some k → B ≤ k ∧ k < w.heap.size := World.ownsRow.lt h
theorem OwnS.nil (B : Nat) (w : World) : OwnS B w (.slice none 0 0) [] := World.ownsRow_nil _ _ _ _
theorem OwnS.new_ (w : World) : OwnS w.heap.size (w.alloc (.cells #[] 9)) (.slice (some ⟨w.heap.size, 0, none⟩) 0 0) [] := by
  have := World.ownsRow_lit (base := w.heap.size) (e := 9) (size := 1) w #[] 0 (Nat.le_refl _) (by decide) (by simp)
  unfold OwnS
  simpa using this
theorem OwnS.form {B : Nat} {w : World} {v : Value} {ss : List Txt} (h : OwnS B w v ss) : ∃ A c, v = .slice A ss.length c := by
  rcases h.2 with ⟨rfl, h0⟩ | ⟨g, cap, cur, rfl, hg, hh, r⟩
  · exact ⟨none, 0, by rw [h0]⟩
  · exact ⟨_, cap, rfl⟩
theorem OwnS.pos {B : Nat} {w : World} {v : Value} {ss : List Txt} (h : OwnS B w v ss) (hx : 0 < ss.length) : ∃ g c, v = .slice (some ⟨g, 0, none⟩) ss.length c ∧ B ≤ g ∧ g < w.heap.size ∧ ss.length ≤ c := by
  rcases h.2 with ⟨rfl, h0⟩ | ⟨g, cap, cur, rfl, hg, hh, h1, _⟩
  · omega
  · exact ⟨g, cap, rfl, hg, lt_of_block hh, h1⟩
theorem OwnS.cell {B g n c : Nat} {w : World} {ss : List Txt} (h : OwnS B w (.slice (some ⟨g, 0, none⟩) n c) ss) {k : Nat} {x : Txt} (hk : ss[k]? = some x) : w.cell? ⟨g, k, none⟩ = some (.string (bs x)) := by
  have := World.ownsRow.cells (h : w.ownsRow _ _ _ _ _ _) (g := g) rfl k (encStr x) (by rw [List.getElem?_map, hk]; rfl)
  rw [add_g] at this
  exact this
theorem OwnS.frozen {B g n c : Nat} {w : World} {ss : List Txt} (h : OwnS B w (.slice (some ⟨g, 0, none⟩) n c) ss) (k : Nat) : w.frozen? ⟨g, k, none⟩ = false := by
  obtain ⟨A, c', e⟩ := h.form
  cases e
  exact World.ownsRow.frozenAt h k

theorem info_str : (Try.prog.info? 9).map (fun i => (i.zero, i.size, i.bytes)) = some (some (.string ⟨#[]⟩), 1, 16) := by kernel_rfl
theorem info_partsS {t : TypeId} {z : Value} {n b : Nat} (h : (Try.prog.info? t).map (fun i => (i.zero, i.size, i.bytes)) = some (some z, n, b)) : ∃ i, Try.prog.info? t = some i ∧ i.zero = some z ∧ i.size = n ∧ i.bytes = b := by
  cases hi : Try.prog.info? t with
  | none => rw [hi] at h; cases h
  | some i =>
    rw [hi] at h
    simp at h
    exact ⟨i, rfl, h.1, h.2.1, h.2.2⟩

/-- append of one text -/
theorem wpList_appT {ops : Array Oper} {rest : List Oper} {o : Oper} {a : Act} {Q : Exit → Act → World → Prop} (w : World) (hgd : o.guard = none) (s x : Operand)
    (ho : o.op = .call { callee := .builtin .append, args := #[s, x], argTypes := #[47, 47] })
    (base : Nat) (v : Value) (ss : List Txt) (hs : a.eval s = v) (hown : OwnS base w v ss) (g : Nat) (z : Txt) (hx : a.eval x = .slice (some ⟨g, 0, none⟩) 1 1)
    (hc : w.cell? ⟨g, 0, none⟩ = some (.string (bs z))) (hlen : ss.length ≤ 1000000) (hbase : base ≤ w.heap.size)
    (hK : ∀ A c w', OwnS base w' (.slice A (ss.length + 1) c) (ss ++ [z]) → Below base w w' → wpList Try.prog ops Q rest (a.put o.dst (.slice A (ss.length + 1) c)) w') : wpList Try.prog ops Q (o :: rest) a w := by
  obtain ⟨i0, hi, hz0, hz1, hz2⟩ := info_partsS info_str
  refine wpList_append_own w hgd s x 47 ho base 9 i0 (.string ⟨#[]⟩) 1 16 Try.underlying47 hi hz0 hz1 hz2 rfl (by decide) v ss.length (ss.map encStr) hs hown ⟨g, 0, none⟩ 1 1 [.string (bs z)] hx rfl ?_ ?_ ?_ ?_ hbase ?_
  · intro j u hj
    match j, hj with
    | 0, hj => simp at hj; subst hj; simpa [Addr.add] using hc
  · intro u hu; simp at hu; subst hu; rfl
  · unfold maxLen; omega
  · omega
  · intro v' w' hown' hgrow _
    have ho' : OwnS base w' v' (ss ++ [z]) := by unfold OwnS; simpa [encStr_bs] using hown'
    obtain ⟨A, c, e⟩ := ho'.form
    rw [e] at ho' ⊢
    rw [List.length_append] at ho' ⊢
    exact hK A c w' ho' ((Below.refl base w).grown hgrow hbase (fun k hk => (hown.lt k hk).1))

/-- texts in the order of bytes -/
def sortT (ss : List Txt) : List Txt := ss.mergeSort fun x y => decide (x ≤ y)
theorem sortT_len (ss : List Txt) : (sortT ss).length = ss.length := by simp [sortT]
theorem sortT_perm (ss : List Txt) : (sortT ss).Perm ss := List.mergeSort_perm _ _
/-- new texts are handed back -/
def RetS (w : World) (ss : List Txt) (e : Ending) (w' : World) : Prop := ∃ A c, e = .returned (.slice A ss.length c) ∧ OwnS w.heap.size w' (.slice A ss.length c) ss ∧ Below w.heap.size w w'
theorem retS_own {w wr : World} {v : Value} {L : List Txt} (ho : OwnS w.heap.size wr v L) (hb : Below w.heap.size w wr) : RetS w L (.returned v) wr := by
  obtain ⟨A, c, rfl⟩ := ho.form
  exact ⟨A, c, rfl, ho, hb⟩

theorem sort_c (B : Nat) (w : World) (g c : Nat) (ss : List Txt) (hown : OwnS B w (.slice (some ⟨g, 0, none⟩) ss.length c) ss) (hlen : ss.length ≤ 1000000) :
    Calls Try.prog 53 #[.slice (some ⟨g, 0, none⟩) ss.length c] w fun e w' => e = .returned (.tuple #[]) ∧ OwnS B w' (.slice (some ⟨g, 0, none⟩) ss.length c) (sortT ss) ∧ w.grownBy w' (some g) := by
  rcases hown.2 with ⟨hnil, _⟩ | ⟨g', cap, cur, hv, hbase, hb, h1, h2, h3, h4⟩
  · cases hnil
  · cases hv
    have hH : Holds encStr w g 0 ss.toArray := holds_of_block hb (by simpa using h4)
    refine (Try.slices_Sort_string g 0 c ss w hH (Array.getElem?_eq_some_iff.1 hb).1 (by omega)).mono ?_
    rintro e w' ⟨rfl, n, os, rfl⟩
    refine ⟨rfl, ?_, grownBy_sorted _⟩
    have hl := sortT_len ss
    have := ownsRow_sorted (n := n) (os := os) (ss := ss) (ts := sortT ss) hl hbase hb h1 h2 h3
    unfold OwnS
    rw [hl]
    exact this
theorem clone_c (B : Nat) (w : World) (v : Value) (ss : List Txt) (hown : OwnS B w v ss) (hlen : ss.length ≤ 1000000) :
    Calls Try.prog 52 #[v] w (RetS w ss) := by
  rcases hown.2 with ⟨rfl, h0⟩ | ⟨g, cap, cur, rfl, hbase, hb, h1, h2, h3, h4⟩
  · have hs : ss = [] := List.eq_nil_of_length_eq_zero h0
    subst hs
    refine (Try.slices_Clone_string_nil 0 0 w).mono ?_
    rintro e w' ⟨rfl, rfl⟩
    exact retS_own (OwnS.nil _ _) (Below.refl _ _)
  · refine (Try.slices_Clone_string g 0 ss.length cap (ss.map bs) w (by simp) (by omega) ?_).mono ?_
    · intro j hj
      rw [List.length_map] at hj
      have e1 : (ss.map bs).getD j ByteArray.empty = bs ss[j] := by simp [List.getD_eq_getElem?_getD, hj]
      rw [e1, Nat.zero_add]
      exact hown.cell (List.getElem?_eq_getElem hj)
    · rintro e w' ⟨v', rfl, ho, _, hbw⟩
      refine retS_own ?_ hbw
      unfold OwnS
      rw [List.take_of_length_le (by simp), List.map_map] at ho
      exact ho
theorem inOrder_c (B : Nat) (w : World) (v : Value) (ss : List Txt) (hown : OwnS B w v ss) (hlen : ss.length ≤ 1000000) :
    Calls Try.prog 36 #[v] w (RetS w (sortT ss)) := by
  have c1 := hid (clone_c B w v ss hown hlen)
  obtain ⟨A, c, rfl⟩ := hown.form
  clear hown
  go_enter Try.func36, Try.ntmps36
  go_wp2_with fail
  refine c1.out.mono ?_
  rintro e w2 ⟨A2, c2, rfl, o2, b2⟩
  clear c1
  by_cases h0 : 0 < ss.length
  · obtain ⟨g, c', e9, hg, _, _⟩ := o2.pos h0
    cases e9
    have k := hid (sort_c w.heap.size w2 g _ ss o2 hlen)
    have HL := hid (sortT_len ss)
    go_wp2_with fail
    refine k.out.mono ?_
    rintro e w3 ⟨rfl, o3, g3⟩
    have b3 := b2.grown g3 b2.size (fun k hk => by injection hk with hk; omega)
    go_wp2_with fail
    go_ret
    refine ⟨some ⟨g, 0, none⟩, c2, by rw [HL.out]; rfl, ?_, b3⟩
    rw [HL.out]
    exact o3
  · have hs : ss = [] := List.eq_nil_of_length_eq_zero (by omega)
    subst hs
    have k := hid (Try.slices_Sort_string_none A2 c2 w2)
    rw [show ([] : List Txt).length = 0 from rfl]
    clear h0
    go_wp2_with fail
    refine k.out.mono ?_
    rintro e w3 ⟨rfl, rfl⟩
    go_wp2_with fail
    go_ret
    rw [show sortT [] = [] by simp [sortT]]
    exact ⟨A2, c2, rfl, o2, b2⟩

theorem join_c (B : Nat) (w : World) (v : Value) (ss : List Txt) (sep : Txt) (hown : OwnS B w v ss) (hlen : ss.length ≤ 1000000) (hl : (Lib.join ss sep).length ≤ 140737488355328) :
    Calls Try.prog 35 #[v, .string (bs sep)] w fun e w' => e = .returned (.string (bs (Lib.join ss sep))) ∧ Below w.heap.size w w' := by
  by_cases h0 : 0 < ss.length
  · obtain ⟨g, c, rfl, hg, hlt, hcap⟩ := hown.pos h0
    have hm : (ss.map bs).map (·.data.toList) = ss := by rw [List.map_map]; conv => rhs; rw [← List.map_id ss]
                                                         exact List.map_congr_left fun x _ => bs_list x
    have := Try.strings_Join g 0 c (ss.map bs) (bs sep) w (fun j x hj => by
      rw [List.getElem?_map] at hj
      cases hx : ss[j]? with
      | none => rw [hx] at hj; simp at hj
      | some y =>
        rw [hx] at hj
        simp at hj
        subst hj
        rw [Nat.zero_add]
        exact hown.cell hx) hlt (by simp; omega) (by simpa using hcap) (by rw [hm, bs_list]; exact hl)
    rw [hm, bs_list, List.length_map] at this
    exact this
  · have hs : ss = [] := List.eq_nil_of_length_eq_zero (by omega)
    subst hs
    obtain ⟨A, c, rfl⟩ := hown.form
    refine (Try.strings_Join_none A c (bs sep) w).mono ?_
    rintro e w' ⟨rfl, rfl⟩
    exact ⟨rfl, Below.refl _ _⟩

end Go.Proofs.Ytjipecfoiddkjaa
