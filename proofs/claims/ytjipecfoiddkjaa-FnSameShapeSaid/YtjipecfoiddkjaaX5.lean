/- Contracts of chapter 5, the program's: texts of trees. -/
import Derived.Test.YtjipecfoiddkjaaX4
import Derived.Test.YtjipecfoiddkjaaI3
import Derived.Shelf.RegionOpen
namespace Go.Proofs.Ytjipecfoiddkjaa
open Go.RowKit Go.Shelf
set_option linter.unusedVariables false
attribute [local go_sem] Oper.semAt_some

/-- nothing below B0 has turned, and nothing below n₁ but block B -/
def KB (B0 B n₁ : Nat) (W W' : World) : Prop := Below B0 W W' ∧ ∀ k, k < n₁ → k ≠ B → W'.heap[k]? = W.heap[k]?
theorem KB.refl (B0 B n₁ : Nat) (W : World) : KB B0 B n₁ W W := ⟨Below.refl _ _, fun _ _ _ => rfl⟩
theorem KB.trans {B0 B n₁ : Nat} {X Y Z : World} (h : KB B0 B n₁ X Y) (k : KB B0 B n₁ Y Z) : KB B0 B n₁ X Z := ⟨h.1.trans k.1, fun i h1 h2 => (k.2 i h1 h2).trans (h.2 i h1 h2)⟩
theorem KB.of_below {B0 B n₁ : Nat} {W W' : World} (h0 : B0 ≤ n₁) (h : Below n₁ W W') : KB B0 B n₁ W W' := ⟨h.mono h0, fun k hk _ => h.block k hk⟩
theorem KB.cell {B0 B n₁ : Nat} {W W' : World} (h : KB B0 B n₁ W W') {p : Addr} (hp : p.block < n₁) (hne : p.block ≠ B) : W'.cell? p = W.cell? p := World.cell?_of_block (w := W) (h.2 _ hp hne)
theorem ownFrom_KB {β : Type} {B0 B : Nat} {W0 : World} (h0 : B0 ≤ W0.heap.size) : OwnFrom W0.heap.size (fun (_ : β) W => KB B0 B W0.heap.size W0 W) :=
  fun _ W W' row hs hg hr => hs.trans (KB.of_below h0 ((Below.refl W0.heap.size W).grown hg hs.1.size (fun k e => (hr k e).1)))
theorem KB.putObj {B0 B n₁ : Nat} {w : World} (h0 : B0 ≤ n₁) (hn : n₁ ≤ w.heap.size) (W : World) (l : Nat) (o o' : Obj) (hl : w.heap.size ≤ l) (h : W.heap[l]? = some o) (hc : o.isCells = false) (hw : o.isWalk = false) : KB B0 B n₁ W (W.putObj l o') :=
  KB.of_below h0 (belowK_b hn W l o o' hl h hc hw)

set_option maxRecDepth 100000 in
set_option maxHeartbeats 1000000 in
theorem from1_k (n : Nat) (hn : 1 ≤ n) (l Bs Bt cap : Nat) (ad : Addr) (f : List Int) (t : Int) (h7 : f.length ≤ 7) (Kp : World → World → Prop) (hKr : ∀ W, Kp W W) (hKt : ∀ {A B C : World}, Kp A B → Kp B C → Kp A C)
    (hKc : ∀ (A B : World) (p : Addr), Kp A B → (p.block = Bs ∨ p.block = Bt ∨ p.block = ad.block) → B.cell? p = A.cell? p) (J Jx : List (Th f t) → World → Prop)
    (hY : ∀ pre x W, J pre W → pre.length < f.length → YieldAt Fence.wide (n - 1) Try.prog l #[.int .i64 (x.1 : Nat)] W fun e W' =>
      (e = .returned (.bool true) ∧ J (pre ++ [x]) W' ∧ Kp W W') ∨ (e = .returned (.bool false) ∧ Jx (pre ++ [x]) W'))
    (W : World) (hBs : W.cell? ⟨Bs, 0, none⟩ = some (.slice (some ad) f.length cap)) (hBt : W.cell? ⟨Bt, 0, none⟩ = some (.int .i64 t)) (hc : ∀ k, k < f.length → W.cell? (ad.add k) = some (.int .i64 (nth f k))) (h0 : J [] W) :
    CallsIn Fence.wide n Try.prog 69 #[.func (.yield l) #[] #[], .pointer (some ⟨Bs, 0, none⟩), .pointer (some ⟨Bt, 0, none⟩)] W fun e W' => (∃ v, e = .returned v) ∧
      ((∃ ys : List (Th f t), ys.map (·.1) = frN f t f.length ∧ J ys W') ∨ (∃ pre : List (Th f t), True ∧ Jx pre W')) := by
  refine callsIn_of_wp Try.func69 rfl trivial ?_ rfl
  simp only [Try.ntmps69, List.size_toArray, List.length_cons, List.length_nil, Nat.reduceAdd, Nat.reduceSub, Array.replicate_succ, Array.replicate_zero, List.push_toArray, List.append_toArray, List.nil_append, List.cons_append]
  gi_wp2
  gi_loopw [8] (fun i wr => ∃ (k : Nat) (pre : List (Th f t)), k ≤ f.length ∧ i = .int .i64 k ∧ Hid (pre.map (·.1) = frN f t k) ∧ J pre wr ∧ Kp W wr)
    (fun i _ => f.length - (intOf i).toNat)
  case atStart => exact ⟨0, [], Nat.zero_le _, rfl, rfl, h0, hKr _⟩
  case round =>
    obtain ⟨k, pre, hk, rfl, HP, hJs, hnx⟩ := hrel
    by_cases hlt : k < f.length
    · have hcx := (hKc _ _ (ad.add k) hnx (.inr (.inr (block_of_add ad k)))).trans (hc k hlt)
      have hct := (hKc _ _ ⟨Bt, 0, none⟩ hnx (.inr (.inl rfl))).trans hBt
      by_cases hx : nth f k = t
      · have hpl : pre.length < f.length := by
          have h1 := congrArg List.length HP.out
          have h2 := frN_len f t k
          rw [ints_len] at h2
          rw [List.length_map] at h1
          omega
        obtain ⟨x, hxk⟩ : ∃ x : Th f t, x.1 = k := ⟨⟨k, hlt, hx⟩, rfl⟩
        obtain ⟨fn, tmps, assign, body, hy, hR⟩ := hY pre x wr hJs hpl
        rw [hxk] at hy
        have HN := hid (show (pre ++ [x]).map (·.1) = frN f t (k + 1) by rw [List.map_append, HP.out, frN_succ_yes hx, ← hxk]; rfl)
        rw [hx] at hcx
        clear hx hxk
        gi_wp2
        refine hR.mono ?_
        rintro e W3 (⟨rfl, hJ3, hk3⟩ | ⟨rfl, hJx3⟩)
        · gi_wp2
          go_roundw
          case rel => exact ⟨k + 1, _, by omega, by simp, HN, hJ3, hKt hnx hk3⟩
          case measure => simp [intOf]; omega
        · gi_wp2
          refine bodyPost_ret (results_none rfl _ _ _) rfl ?_
          exact ⟨⟨_, rfl⟩, .inr ⟨_, trivial, hJx3⟩⟩
      · have q1 : (nth f k == t) = false := by simpa using hx
        have HN := hid (show pre.map (·.1) = frN f t (k + 1) by rw [HP.out, frN_succ_no hx])
        clear hx
        generalize nth f k = X at *
        gi_wp2
        refine ⟨fun _ h => (by cases h), ?_⟩
        gi_wp2
        go_roundw
        case rel => exact ⟨k + 1, pre, by omega, by simp, HN, hJs, hnx⟩
        case measure => simp [intOf]; omega
    · obtain rfl : k = f.length := by omega
      gi_wp2
      go_end0
      exact ⟨⟨_, rfl⟩, .inl ⟨_, HP.out, hJs⟩⟩
theorem from_k (n : Nat) (hn : 1 ≤ n) (Bs Bt cap : Nat) (ad : Addr) (f : List Int) (t : Int) (h7 : f.length ≤ 7) (Kp : World → World → Prop) (hKr : ∀ W, Kp W W) (hKt : ∀ {A B C : World}, Kp A B → Kp B C → Kp A C)
    (hKc : ∀ (A B : World) (p : Addr), Kp A B → (p.block = Bs ∨ p.block = Bt ∨ p.block = ad.block) → B.cell? p = A.cell? p) (w : World) (had : ad.block < w.heap.size) (hBn : Bs < w.heap.size) (hTn : Bt < w.heap.size)
    (hBs : w.cell? ⟨Bs, 0, none⟩ = some (.slice (some ad) f.length cap)) (hBt : w.cell? ⟨Bt, 0, none⟩ = some (.int .i64 t)) (hc : ∀ k, k < f.length → w.cell? (ad.add k) = some (.int .i64 (nth f k))) :
    SeqStopsK Fence.wide n Try.prog 69 #[.pointer (some ⟨Bs, 0, none⟩), .pointer (some ⟨Bt, 0, none⟩)] (fun x : Th f t => #[Value.int .i64 (x.1 : Nat)]) Kp (fun ys => ys.map (·.1) = frN f t f.length) (fun _ => True) f.length w := fun l J Jx W hW _ _ hY h0 =>
  from1_k n hn l Bs Bt cap ad f t h7 Kp hKr hKt hKc J Jx hY W ((hW.cell (p := ⟨Bs, 0, none⟩) (by show Bs < _; omega)).trans hBs) ((hW.cell (p := ⟨Bt, 0, none⟩) (by show Bt < _; omega)).trans hBt)
    (fun k hk => (hW.cell (p := ad.add k) (by rw [block_of_add]; omega)).trans (hc k hk)) h0

/-- append of one text in a region that draws its order, inside a fence -/
theorem step_appendT {F : Fence} {n : Nat} {ops : Array Oper} {o : Oper} {a : Act} {w : World} {K : Act → World → Prop} {Q : Exit → Act → World → Prop} {E : Prop}
    (hg : o.guard = none) (s x : Operand) (hop : o.op = Op.call { callee := Callee.builtin Builtin.append, args := #[s, x], argTypes := #[47, 47] })
    (base : Nat) (v : Value) (ss : List Txt) (hs : a.eval s = v) (hown : OwnS base w v ss) (g : Nat) (z : Txt) (hx : a.eval x = .slice (some ⟨g, 0, none⟩) 1 1)
    (hc : w.cell? ⟨g, 0, none⟩ = some (.string (bs z))) (hlen : ss.length ≤ 1000000) (hbase : base ≤ w.heap.size)
    (hK : ∀ A c w', OwnS base w' (.slice A (ss.length + 1) c) (ss ++ [z]) → w.grownBy w' v.ownBlock → K (a.put o.dst (.slice A (ss.length + 1) c)) w') :
    if Region.wanted o (yielded ops a.tmps) = true then Oper.wpIn F n Try.prog o a w K Q else E := by
  have hw : Region.wanted o (yielded ops a.tmps) = true := by simp [Region.wanted, hg]
  rw [if_pos hw]
  obtain ⟨i0, hi, hz0, hz1, hz2⟩ := info_partsS info_str
  obtain ⟨v', w', hrun, r1, r2, _⟩ := run_append_own (P := Try.prog) w base 47 o.type 9 i0 (.string ⟨#[]⟩) 1 16 Try.underlying47 hi hz0 hz1 hz2 rfl (by decide) v ss.length (ss.map encStr) hown ⟨g, 0, none⟩ 1 1 [.string (bs z)] rfl
    (fun j u hj => by
      match j, hj with
      | 0, hj => simp at hj; subst hj; simpa [Addr.add] using hc)
    (fun u hu => by simp at hu; subst hu; rfl) (by unfold maxLen; omega) (by omega) hbase
  have ho' : OwnS base w' v' (ss ++ [z]) := by unfold OwnS; simpa [encStr_bs] using r1
  unfold Oper.wpIn
  refine ⟨?_, ?_⟩
  · simp [Oper.about, hop, resolve, Target.leads, Sem.run_pure]
  · rw [Oper.semAt_plain F _ _ (by rw [hop]; intro c hc'; cases hc')]
    simp [execOp, hop, resolve, invoke, builtin, hs, hx, hrun, Result.andThen]
    obtain ⟨A, c, e⟩ := ho'.form
    rw [e] at ho' ⊢
    rw [List.length_append] at ho' ⊢
    exact hK A c w' ho' r2
theorem parts_step {W w2 w4 : World} {n₁ B B0 : Nat} {v v' : Value} {ss ss' : List Txt} {tmp : Obj} (hb : Below W.heap.size W w2) (hB : B < n₁) (hn : n₁ ≤ W.heap.size) (hB0 : B0 ≤ B) (hv : Boxed W B 47 v) (hrow : OwnS n₁ W v ss)
    (hown' : OwnS n₁ w4 v' ss') (hgrow : (w2.alloc tmp).grownBy w4 v.ownBlock) :
    Boxed w4 B 47 v ∧ KeepsFrom n₁ W (w4.setCell ⟨B, 0, none⟩ v') ∧ KB B0 B n₁ W (w4.setCell ⟨B, 0, none⟩ v') ∧ Boxed (w4.setCell ⟨B, 0, none⟩ v') B 47 v' ∧ OwnS n₁ (w4.setCell ⟨B, 0, none⟩ v') v' ss' := by
  have g2 := grown_of_below hb none
  have hv2 : Boxed w2 B 47 v := hv.kept g2 (by simp)
  have hrow2 := hrow.below hb
  have hv4 : Boxed w4 B 47 v := (hv2.alloc tmp).kept hgrow (hv2.not_row (by decide) hrow2)
  refine ⟨hv4, ?_, ?_, hv4.set v', hown'.kept (grownBy_setCell' w4 B v') (.inr (hv4.not_row (by decide) hown').symm)⟩
  · refine ((KeepsFrom.of_grownBy g2 (fun j e => by cases e)).trans (((KeepsOthers.alloc w2 tmp).trans (KeepsOthers.of_grownBy hgrow fun j o ej hj => ?_)).from _)).trans ((KeepsOthers.setCell _ _ _).from _)
    rcases (hrow2.alloc tmp).2 with ⟨rfl, _⟩ | ⟨g, cap, cur, rfl, _, hgb, _⟩
    · simp [Value.ownBlock] at ej
    · simp [Value.ownBlock] at ej
      subst ej
      rw [hgb] at hj; cases hj; rfl
  · have b4 : Below n₁ W w4 := ((hb.mono hn).alloc (Nat.le_trans hn hb.size) tmp).grown hgrow (by have := hb.size; simp; omega) (fun k hk => (hrow2.lt k hk).1)
    refine (KB.of_below (by omega) b4).trans ⟨(Below.refl B0 w4).setCell (p := ⟨B, 0, none⟩) (by exact hB0) _, fun k _ hne => Below.heap_setCell _ _ _ _ (by simpa using hne)⟩

/-- of the things that have come: the texts of those on no loop -/
def partsT {f : List Int} {t : Int} (pre : List (Th f t)) : List Txt := ((pre.map (·.1)).filter fun x => !(tail f x == 0)).map (tree f)
theorem partsT_yes {f : List Int} {t : Int} {pre : List (Th f t)} {x : Th f t} (h : tail f x.1 ≠ 0) : partsT (pre ++ [x]) = partsT pre ++ [tree f x.1] := by
  simp [partsT, List.filter_append, h]
theorem partsT_no {f : List Int} {t : Int} {pre : List (Th f t)} {x : Th f t} (h : tail f x.1 = 0) : partsT (pre ++ [x]) = partsT pre := by
  simp [partsT, List.filter_append, h]
theorem partsT_len {f : List Int} {t : Int} (pre : List (Th f t)) : (partsT pre).length ≤ pre.length := by
  unfold partsT; rw [List.length_map]; exact Nat.le_trans (List.length_filter_le _ _) (by simp)
theorem partsT_all {f : List Int} {t : Nat} {ys : List (Th f t)} (h : ys.map (·.1) = frN f t f.length) : partsT ys = (childs f t f.length).map (tree f) := by
  rw [partsT, h, childs, frN, List.filter_filter]
  congr 2
  funext x
  rw [Bool.and_comm]

end Go.Proofs.Ytjipecfoiddkjaa
