/- Words for rows of slices of integers. -/
import Derived.Test.YtjipecfoiddkjaaQ11
namespace Go.Proofs.Ytjipecfoiddkjaa
open Go.RowKit
set_option linter.unusedVariables false

def gl (xss : List (List Int)) (k : Nat) : List Int := xss.getD k []
/-- the slice v is the call's own and holds the values vs, slices themselves -/
def RowR (B : Nat) (w : World) (v : Value) (vs : List Value) : Prop := w.ownsRow B 23 1 v vs.length vs
def Els (B : Nat) (w : World) (vs : List Value) (xss : List (List Int)) : Prop :=
  vs.length = xss.length ∧ ∀ k, k < xss.length → ∃ A c, vs[k]? = some (.slice A (gl xss k).length c) ∧ Own B w (.slice A (gl xss k).length c) (gl xss k)
def OwnRR (B : Nat) (w : World) (v : Value) (xss : List (List Int)) : Prop := ∃ vs, RowR B w v vs ∧ Els B w vs xss

theorem own_apart_row {B B' : Nat} {w : World} {u v : Value} {xs : List Int} {vs : List Value} (h : Own B w u xs) (hr : RowR B' w v vs) : u.ownBlock = none ∨ u.ownBlock ≠ v.ownBlock := by
  rcases h.2 with ⟨rfl, _⟩ | ⟨g, cap, cur, rfl, _, hb, _⟩
  · exact .inl rfl
  · refine .inr ?_
    rcases hr.2 with ⟨rfl, _⟩ | ⟨g', cap', cur', rfl, _, hb', _⟩
    · simp [Value.ownBlock]
    · intro e
      obtain rfl : g = g' := by simpa [Value.ownBlock] using e
      rw [hb] at hb'
      simp at hb'
theorem Els.kept {B : Nat} {w w' : World} {vs : List Value} {xss : List (List Int)} {row : Option Nat} (h : Els B w vs xss) (hg : w.grownBy w' row) (hne : ∀ u xs, Own B w u xs → u.ownBlock = none ∨ u.ownBlock ≠ row) : Els B w' vs xss :=
  ⟨h.1, fun k hk => by
    obtain ⟨A, c, e, ho⟩ := h.2 k hk
    exact ⟨A, c, e, ho.kept hg (hne _ _ ho)⟩⟩
theorem OwnRR.below {B : Nat} {w w' : World} {v : Value} {xss : List (List Int)} (h : OwnRR B w v xss) (hb : Below w.heap.size w w') : OwnRR B w' v xss := by
  obtain ⟨vs, hr, hl, he⟩ := h
  refine ⟨vs, ?_, hl, fun k hk => ?_⟩
  · rcases hv : v.ownBlock with _ | g
    · exact World.ownsRow.kept hr (grown_of_below hb none) (.inl hv)
    · exact World.ownsRow.kept hr (grown_of_below hb none) (.inr (by rw [hv]; simp))
  · obtain ⟨A, c, e, ho⟩ := he k hk
    exact ⟨A, c, e, ho.below hb⟩
theorem OwnRR.mono {B B' : Nat} {w : World} {v : Value} {xss : List (List Int)} (h : OwnRR B w v xss) (hB : B' ≤ B) : OwnRR B' w v xss := by
  obtain ⟨vs, hr, hl, he⟩ := h
  refine ⟨vs, ⟨hr.1, ?_⟩, hl, fun k hk => ?_⟩
  · rcases hr.2 with h2 | ⟨g, cap, cur, hv, hg, r⟩
    · exact .inl h2
    · exact .inr ⟨g, cap, cur, hv, Nat.le_trans hB hg, r⟩
  · obtain ⟨A, c, e, ho⟩ := he k hk
    exact ⟨A, c, e, ho.mono hB⟩
theorem OwnRR.drew {B : Nat} {w : World} {v : Value} {xss : List (List Int)} (h : OwnRR B w v xss) : OwnRR B w.drew v xss := h.below (Below.refl _ _).drew
theorem OwnRR.alloc {B : Nat} {w : World} {v : Value} {xss : List (List Int)} (h : OwnRR B w v xss) (o : Obj) : OwnRR B (w.alloc o) v xss := h.below ((Below.refl _ _).alloc (Nat.le_refl _) o)
theorem OwnRR.nil (B : Nat) (w : World) : OwnRR B w (.slice none 0 0) [] := ⟨[], World.ownsRow_nil _ _ _ _, rfl, fun k hk => by simp at hk⟩
theorem OwnRR.new_ (w : World) : OwnRR w.heap.size (w.alloc (.cells #[] 23)) (.slice (some ⟨w.heap.size, 0, none⟩) 0 0) [] := by
  have := World.ownsRow_lit (base := w.heap.size) (e := 23) (size := 1) w #[] 0 (Nat.le_refl _) (by decide) (by simp)
  exact ⟨[], by unfold RowR; simpa using this, rfl, fun k hk => by simp at hk⟩
theorem OwnRR.form {B : Nat} {w : World} {v : Value} {xss : List (List Int)} (h : OwnRR B w v xss) : ∃ A c, v = .slice A xss.length c := by
  obtain ⟨vs, hr, hl, _⟩ := h
  rcases hr.2 with ⟨rfl, h0⟩ | ⟨g, cap, cur, rfl, hg, hh, r⟩
  · exact ⟨none, 0, by rw [← hl, h0]⟩
  · exact ⟨_, cap, by rw [hl]⟩
/-- the k-th of the rows -/
theorem OwnRR.at_ {B : Nat} {w : World} {A : Option Addr} {n c : Nat} {xss : List (List Int)} (h : OwnRR B w (.slice A n c) xss) {k : Nat} (hk : k < xss.length) :
    ∃ g D d, A = some ⟨g, 0, none⟩ ∧ B ≤ g ∧ w.cell? ⟨g, k, none⟩ = some (.slice D (gl xss k).length d) ∧ Own B w (.slice D (gl xss k).length d) (gl xss k) := by
  obtain ⟨vs, hr, hl, he⟩ := h
  obtain ⟨D, d, e, ho⟩ := he k hk
  have hv := hr.2
  rcases hv with ⟨e1, h0⟩ | ⟨g, cap, cur, e1, hg, hh, r⟩
  · omega
  · cases e1
    have := World.ownsRow.cells hr (g := g) rfl k _ e
    exact ⟨g, D, d, rfl, hg, by rwa [add_g] at this, ho⟩

theorem info_row : (Try.prog.info? 23).map (fun i => (i.zero, i.size, i.bytes)) = some (some (.slice none 0 0), 1, 24) := by kernel_rfl
theorem info_parts' {t : TypeId} {z : Value} {n b : Nat} (h : (Try.prog.info? t).map (fun i => (i.zero, i.size, i.bytes)) = some (some z, n, b)) : ∃ i, Try.prog.info? t = some i ∧ i.zero = some z ∧ i.size = n ∧ i.bytes = b := by
  cases hi : Try.prog.info? t with
  | none => rw [hi] at h; cases h
  | some i =>
    rw [hi] at h
    simp at h
    exact ⟨i, rfl, h.1, h.2.1, h.2.2⟩

/-- append of one slice -/
theorem wpList_appR {ops : Array Oper} {rest : List Oper} {o : Oper} {a : Act} {Q : Exit → Act → World → Prop} (w : World) (hgd : o.guard = none) (s x : Operand)
    (ho : o.op = .call { callee := .builtin .append, args := #[s, x], argTypes := #[36, 36] })
    (base : Nat) (v : Value) (xss : List (List Int)) (hs : a.eval s = v) (hown : OwnRR base w v xss) (g : Nat) (D : Option Addr) (d : Nat) (zs : List Int) (hz : Own base w (.slice D zs.length d) zs)
    (hx : a.eval x = .slice (some ⟨g, 0, none⟩) 1 1)
    (hc : w.cell? ⟨g, 0, none⟩ = some (.slice D zs.length d)) (hlen : xss.length ≤ 1000000000000) (hbase : base ≤ w.heap.size)
    (hK : ∀ A c w', OwnRR base w' (.slice A (xss.length + 1) c) (xss ++ [zs]) → Below base w w' → wpList Try.prog ops Q rest (a.put o.dst (.slice A (xss.length + 1) c)) w') : wpList Try.prog ops Q (o :: rest) a w := by
  obtain ⟨i0, hi, hz0, hz1, hz2⟩ := info_parts' info_row
  obtain ⟨vs, hr, hl, he⟩ := hown
  refine wpList_append_own w hgd s x 36 ho base 23 i0 (.slice none 0 0) 1 24 Try.underlying36 hi hz0 hz1 hz2 rfl (by decide) v vs.length vs hs hr ⟨g, 0, none⟩ 1 1 [.slice D zs.length d] hx rfl ?_ ?_ ?_ ?_ hbase ?_
  · intro j u hj
    match j, hj with
    | 0, hj => simp at hj; subst hj; simpa [Addr.add] using hc
  · intro u hu; simp at hu; subst hu; rfl
  · unfold maxLen; omega
  · omega
  · intro v' w' hown' hgrow _
    have hel : Els base w' (vs ++ [.slice D zs.length d]) (xss ++ [zs]) := by
      refine ⟨by simp [hl], fun k hk => ?_⟩
      rw [List.length_append] at hk
      by_cases hkl : k < xss.length
      · obtain ⟨A, c, e, ho⟩ := he k hkl
        have e9 : gl (xss ++ [zs]) k = gl xss k := by simp [gl, List.getD, List.getElem?_append_left hkl]
        rw [e9]
        exact ⟨A, c, by rw [List.getElem?_append_left (by omega)]; exact e, ho.kept hgrow (own_apart_row ho hr)⟩
      · obtain rfl : k = xss.length := by simp at hk; omega
        have e9 : gl (xss ++ [zs]) xss.length = zs := by simp [gl, List.getD]
        rw [e9]
        exact ⟨D, d, by rw [← hl]; simp, hz.kept hgrow (own_apart_row hz hr)⟩
    have hrow : RowR base w' v' (vs ++ [.slice D zs.length d]) := by unfold RowR; simpa using hown'
    have hall : OwnRR base w' v' (xss ++ [zs]) := ⟨_, hrow, hel⟩
    obtain ⟨A, c, e⟩ := hall.form
    rw [e] at hall ⊢
    rw [List.length_append] at hall ⊢
    exact hK A c w' hall ((Below.refl base w).grown hgrow hbase (fun k hk => (World.ownsRow.lt hr k hk).1))

end Go.Proofs.Ytjipecfoiddkjaa
