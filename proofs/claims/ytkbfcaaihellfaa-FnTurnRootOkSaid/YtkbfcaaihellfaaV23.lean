/- Steps on the way to the law; each part says what it proves. -/
import Derived.Test.YtkbfcaaihellfaaV22
import Derived.Test.YtkbfcaaihellfaaV9

set_option linter.unusedSimpArgs false

/- The draws of names, of two maps, of turns, of a map and a thing. -/
namespace Go.Proofs.Ytkbfcaaihellfaa
open Go.RowKit
set_option linter.unusedVariables false

theorem DrawnR.le {w w' : World} {r m d d' n : Nat} {e : Ending} (h : DrawnR w r m d n e w') (hd : d ≤ d') : DrawnR w r m d' n e w' := by
  obtain ⟨xs, A, c, h1, h2, h3, h4, h5⟩ := h
  exact ⟨xs, A, c, h1, h2, h3, h4.more (by omega), h5⟩

set_option maxHeartbeats 2000000 in
theorem l20Names_c (r m n : Nat) (w : World) (hr : Rdr w r m) (hm : m ≤ 1000) (hn : n ≤ 8) :
    Calls Try.prog 67 #[.pointer (some ⟨r, 0, none⟩), .int .i64 n] w (DrawnR w r m 8 8) := by
  have hrl := hr.lt
  have o0 := own_empty w
  have b0 : Below w.heap.size w (w.alloc (.cells #[] 3)) := (Below.refl _ _).alloc (Nat.le_refl _) _
  have hr0 := hr.below b0 hrl
  have g0 := grown_of_below b0 (some r)
  clear hr b0
  go_enter Try.func67, Try.ntmps67
  go_wp2_with fail
  go_loopw [5, 6] (fun v i wr => ∃ (k : Nat) (xs : List Int), k ≤ n ∧ Hid (xs.length = k) ∧ i = .int .i64 k ∧ Own w.heap.size wr v xs ∧ Rdr wr r (m + k) ∧ w.grownBy wr (some r)) (fun _ i _ => n - (intOf i).toNat)
  case atStart => exact ⟨0, [], Nat.zero_le _, rfl, rfl, o0, hr0, g0⟩
  case round =>
    clear o0 hr0 g0
    obtain ⟨k, xs, hk, HXL, rfl, ho, hr1, g1⟩ := hrel
    by_cases hlt : k < n
    · go_wp2_with fail
      refine (pick_c r (m + k) ((k : Int) + 1) wr hr1 (by omega) (by omega) (by omega)).mono ?_
      rintro e w2 ⟨z, rfl, hz0, hz1, hr2, hg2, hz2⟩
      have g2 := grown_pick g1 hg2
      have o2 := ho.pick hrl hg2
      have hsz : w.heap.size ≤ w2.heap.size := g2.size
      obtain ⟨Z, rfl⟩ := Int.eq_ofNat_of_zero_le hz0
      clear hz2 hg2 g1 ho hr1
      go_wp2_with (at_builtin; refine wpList_app1 _ rfl _ _ rfl w.heap.size _ xs rfl (o2.alloc _) w2.heap.size (k : Int) rfl (cell_one1 _ _ _) (by have := HXL.out; omega) (by simp; omega) ?_; intro A3 c3 w3 o3 b3)
      have b3' : Below w.heap.size w2 w3 := ((Below.refl _ w2).alloc hsz _).trans b3
      have hr3 := hr2.below b3' hrl
      have g3 := grown_step g2 b3' (Nat.le_refl _)
      clear b3 b3' hr2 g2 o2
      obtain ⟨gO, c', e9, hgO, -⟩ := o3.pos (by simp)
      rw [List.length_append, show [((k : Nat) : Int)].length = 1 from rfl] at e9
      cases e9
      have HY := hid (show (xs ++ [(k : Int)]).length = k + 1 by rw [List.length_append, HXL.out]; rfl)
      rw [HXL.out] at o3 ⊢
      generalize xs ++ [(k : Int)] = ys at *
      clear HXL
      go_wp2_with fail
      go_loopw [8] (fun i wr' => ∃ (j : Nat) (zs : List Int), Z ≤ j ∧ j ≤ k ∧ i = .int .i64 j ∧ Hid (zs.length = k + 1) ∧ Own w.heap.size wr' (.slice (some ⟨gO, 0, none⟩) (k + 1) c3) zs ∧ Rdr wr' r (m + k + 1) ∧ w.grownBy wr' (some r)) (fun i _ => (intOf i).toNat)
      case atStart => exact ⟨k, ys, by omega, Nat.le_refl _, rfl, HY, o3, hr3, g3⟩
      case round =>
        clear o3 hr3 g3
        obtain ⟨j, zs, hj1, hj2, rfl, HZ, ho, hr1, g1⟩ := hrel
        by_cases hjz : Z < j
        · have e1 : (j : Int) - 1 = ((j - 1 : Nat) : Int) := by omega
          have hc1 := ho.cell (k := j - 1) (by rw [HZ.out]; omega)
          have hc2 := ho.cell (k := j) (by rw [HZ.out]; omega)
          have hf2 := ho.frozen j
          have hs1 := ho.store j (nth zs (j - 1))
          have bs1 := (Below.refl w.heap.size wr).setCell (p := ⟨gO, j, none⟩) hgO (.int .i64 (nth zs (j - 1)))
          have HR := hid (And.intro hs1 (And.intro (hr1.below bs1 hrl) (grown_step g1 bs1 (Nat.le_refl _))))
          have HL := hid (show (zs.set j (nth zs (j - 1))).length = k + 1 by rw [List.length_set, HZ.out])
          clear ho hr1 g1 hs1 bs1
          generalize nth zs (j - 1) = X at *
          generalize hJ : j - 1 = J at *
          have KJ := hid hJ
          clear hJ
          have hJk : J < k + 1 := by have := KJ.out; omega
          go_wp2_with fail
          go_roundw
          case rel => exact ⟨J, _, by have := KJ.out; omega, by have := KJ.out; omega, rfl, HL, HR.out.1, HR.out.2.1, HR.out.2.2⟩
          case measure => simp [intOf]; have := KJ.out; omega
        · obtain rfl : j = Z := by omega
          have hc2 := ho.cell (k := j) (by rw [HZ.out]; omega)
          have hf2 := ho.frozen j
          have hs1 := ho.store j (k : Int)
          have bs1 := (Below.refl w.heap.size wr).setCell (p := ⟨gO, j, none⟩) hgO (.int .i64 (k : Int))
          have HR := hid (And.intro hs1 (And.intro (hr1.below bs1 hrl) (grown_step g1 bs1 (Nat.le_refl _))))
          have HL := hid (show (zs.set j (k : Int)).length = k + 1 by rw [List.length_set, HZ.out])
          clear ho hr1 g1 hs1 bs1
          go_wp2_with fail
          go_roundw
          case rel => exact ⟨k + 1, _, by omega, HL, by go_num, HR.out.1, HR.out.2.1, HR.out.2.2⟩
          case measure => simp [intOf]; omega
    · obtain rfl : k = n := by omega
      have hxl := HXL.out
      have H := hid (drawn_own (r := r) (m := m) (d := 8) (n := 8) (by omega) ho (hr1.more (by omega)) g1)
      obtain ⟨A, c, rfl, -⟩ := ho.form
      clear hxl ho hr1 g1
      go_wp2_with fail
      go_ret
      exact H.out

/-- two new slices; the reader goes on by at most d -/
def DrawnR2 (w : World) (r m d n : Nat) (e : Ending) (w' : World) : Prop :=
  ∃ (xs ys : List Int) (A B : Option Addr) (c c' : Nat), xs.length ≤ n ∧ ys.length ≤ n + 1 ∧ e = .returned (.tuple #[.slice A xs.length c, .slice B ys.length c']) ∧ Own w.heap.size w' (.slice A xs.length c) xs ∧ Own w.heap.size w' (.slice B ys.length c') ys ∧ Rdr w' r (m + d) ∧ w.grownBy w' (some r)
theorem drawn2_own {w w' : World} {r m d n : Nat} {xs ys : List Int} {A B : Option Addr} {k l c c' : Nat} (hx : xs.length ≤ n) (hy : ys.length ≤ n + 1) (ho : Own w.heap.size w' (.slice A k c) xs) (ho' : Own w.heap.size w' (.slice B l c') ys) (hr : Rdr w' r (m + d)) (hg : w.grownBy w' (some r)) : DrawnR2 w r m d n (.returned (.tuple #[.slice A k c, .slice B l c'])) w' := by
  obtain rfl := ho.len
  obtain rfl := ho'.len
  exact ⟨xs, ys, A, B, c, c', hx, hy, rfl, ho, ho', hr, hg⟩

theorem Own.keep {B B' : Nat} {w w' : World} {v : Value} {xs : List Int} (h : Own B w v xs) (hlt : ∀ g, v.ownBlock = some g → g < B') (hb : Below B' w w') : Own B w' v xs := by
  refine ⟨h.1, ?_⟩
  rcases h.2 with h2 | ⟨g, cap, cur, hv, hg, hh, r⟩
  · exact .inl h2
  · exact .inr ⟨g, cap, cur, hv, hg, (hb.block g (hlt g (by rw [hv]; rfl))).trans hh, r⟩


set_option maxHeartbeats 1000000 in
theorem l20Turn_c (r m : Nat) (w : World) (hr : Rdr w r m) (hm : m ≤ 900) :
    Calls Try.prog 51 #[.pointer (some ⟨r, 0, none⟩), .int .i64 7] w (DrawnR w r m 40 8) := by
  have hrl := hr.lt
  have hp := odd_c r m 8 w hr (by omega) (by omega) (by omega)
  clear hr
  go_enter Try.func51, Try.ntmps51
  go_wp2_with fail
  refine hp.mono ?_
  rintro e w1 ⟨b, rfl, hr1, g1, hz1⟩
  have hsz1 : w.heap.size ≤ w1.heap.size := g1.size
  clear hp hz1
  cases b
  · go_wp2_with fail
    refine (pick_c r (m + 1) 7 w1 hr1 (by omega) (by omega) (by omega)).mono ?_
    rintro e w2 ⟨z, rfl, hz0, hz1, hr2, hg2, hz2⟩
    have g2 := grown_pick g1 hg2
    have hsz2 : w.heap.size ≤ w2.heap.size := g2.size
    obtain ⟨Z, rfl⟩ := Int.eq_ofNat_of_zero_le hz0
    clear hz2 hg2 g1 hr1 hz0
    have k2' := l20Names_c r (m + 1 + 1) (1 + Z) w2 hr2 (by omega) (by omega)
    rw [show ((1 + Z : Nat) : Int) = 1 + (Z : Int) by omega] at k2'
    have k2 := hid k2'
    clear k2'
    go_wp2_with fail
    refine k2.out.mono ?_
    rintro e w3 ⟨xs, A, c, hx, rfl, of, hr3, hg3⟩
    have g3 := grown_pick g2 hg3
    have of := of.mono hsz2
    have hsz3 : w.heap.size ≤ w3.heap.size := g3.size
    clear k2 hr2 g2 hg3
    go_wp2_with fail
    refine (pick_c r (m + 1 + 1 + 8) 2 w3 hr3 (by omega) (by omega) (by omega)).mono ?_
    rintro e w4 ⟨y, rfl, hy0, hy1, hr4, hg4, hz4⟩
    have g4 := grown_pick g3 hg4
    have of := of.pick hrl hg4
    have hsz4 : w.heap.size ≤ w4.heap.size := g4.size
    clear hz4 hg4 g3 hr3
    by_cases hy : y = 0
    · subst hy
      have k5 := hid (sBehindOf_c A A c c xs xs w4 of.rd of.rd (by omega) (by omega))
      have HL := hid (show (behindL xs xs).length ≤ 8 by unfold behindL; split <;> simp [mk_len]; omega)
      clear of
      go_wp2_with fail
      refine k5.out.mono ?_
      rintro e w5 ⟨A5, c5, rfl, o5, b5⟩
      have hr5 := hr4.below b5 (by omega)
      have g5 := grown_step g4 b5 hsz4
      go_wp2_with fail
      go_ret
      exact drawn_own HL.out (o5.mono hsz4) (hr5.more (by omega)) g5
    · have q1 : (y == 0) = false := by simpa using hy
      go_wp2_with fail
      go_ret
      exact drawn_own hx of (hr4.more (by omega)) g4
  · have k2 := hid (l20Map_c r (m + 1) 7 3 w1 hr1 (by omega) (by omega) (by omega) (by omega) (by omega))
    go_wp2_with fail
    refine k2.out.mono ?_
    rintro e w2 ⟨xs, A, c, hx, rfl, of, hr2, hg2⟩
    have g2 := grown_pick g1 hg2
    go_wp2_with fail
    go_ret
    exact drawn_own hx (of.mono hsz1) (hr2.more (by omega)) g2

/-- a slice and a small number -/
def DrawnI (w : World) (r m d n : Nat) (e : Ending) (w' : World) : Prop :=
  ∃ (xs : List Int) (A : Option Addr) (c : Nat) (z : Int), xs.length ≤ n ∧ -100 ≤ z ∧ z ≤ 100 ∧ e = .returned (.tuple #[.slice A xs.length c, .int .i64 z]) ∧ Own w.heap.size w' (.slice A xs.length c) xs ∧ Rdr w' r (m + d) ∧ w.grownBy w' (some r)
def DrawI (w : World) (n : Nat) (e : Ending) (w' : World) : Prop :=
  ∃ (xs : List Int) (A : Option Addr) (c : Nat) (z : Int), xs.length ≤ n ∧ -100 ≤ z ∧ z ≤ 100 ∧ e = .returned (.tuple #[.slice A xs.length c, .int .i64 z]) ∧ Own w.heap.size w' (.slice A xs.length c) xs ∧ Below w.heap.size w w'

theorem Own.rdr {B r m : Nat} {w w' : World} {v : Value} {xs : List Int} (h : Own B w v xs) (hr : Rdr w r m) (hg : w.grownBy w' (some r)) : Own B w' v xs := h.kept hg (by
  rcases h.2 with ⟨rfl, _⟩ | ⟨g, cap, cur, rfl, _, hh, _⟩
  · exact .inl rfl
  · right
    intro e
    obtain rfl : g = r := by simpa [Value.ownBlock] using e
    obtain ⟨_, _, _, _, hb, _⟩ := hr
    rw [hb] at hh
    simp at hh)
def DrawR2 (w : World) (n : Nat) (e : Ending) (w' : World) : Prop :=
  ∃ (xs ys : List Int) (A B : Option Addr) (c c' : Nat), xs.length ≤ n ∧ ys.length ≤ n + 1 ∧ e = .returned (.tuple #[.slice A xs.length c, .slice B ys.length c']) ∧ Own w.heap.size w' (.slice A xs.length c) xs ∧ Own w.heap.size w' (.slice B ys.length c') ys ∧ Below w.heap.size w w'

end Go.Proofs.Ytkbfcaaihellfaa

/- Draws of maps that most often can be turned round, for the laws over TurnRootOk and TurnsWith. -/
namespace Go.Proofs.Ytkbfcaaihellfaa
open Go.RowKit
set_option linter.unusedVariables false

theorem DrawTurnRootOk_c (a : Option Addr) (len cap : Nat) (zs : List Int) (w : World) (h : RowIn .u8 w a len cap zs) (hn : len ≤ 1048576) :
    Calls Try.prog 28 #[.slice a len cap] w (DrawR w 8) := by
  have ho := open_c a len cap zs w h hn
  clear h
  go_enter Try.func28, Try.ntmps28
  go_wp2_with fail
  refine ho.mono ?_
  rintro e w1 ⟨r, rfl, hr, hb, hr0, hr1⟩
  go_wp2_with fail
  refine (l20Turn_c r 0 w1 hr (by omega)).mono ?_
  rintro e w2 ⟨xs, A, c, hx, rfl, ho2, hr2, hg2⟩
  go_wp2_with fail
  go_ret
  exact ⟨xs, A, c, hx, rfl, ho2.mono hb.size, below_pick hb hr0 hb.size hg2⟩
theorem DrawTurnsWith_c (a : Option Addr) (len cap : Nat) (zs : List Int) (w : World) (h : RowIn .u8 w a len cap zs) (hn : len ≤ 1048576) :
    Calls Try.prog 32 #[.slice a len cap] w (DrawR w 8) := by
  have ho := open_c a len cap zs w h hn
  clear h
  go_enter Try.func32, Try.ntmps32
  go_wp2_with fail
  refine ho.mono ?_
  rintro e w1 ⟨r, rfl, hr, hb, hr0, hr1⟩
  go_wp2_with fail
  refine (l20Turn_c r 0 w1 hr (by omega)).mono ?_
  rintro e w2 ⟨xs, A, c, hx, rfl, ho2, hr2, hg2⟩
  go_wp2_with fail
  go_ret
  exact ⟨xs, A, c, hx, rfl, ho2.mono hb.size, below_pick hb hr0 hb.size hg2⟩
end Go.Proofs.Ytkbfcaaihellfaa

/- RootsOf, alone up to its workers: the run ends well, if what stands behind it does. -/
namespace Go.Proofs.Ytkbfcaaihellfaa
open Go.Conc Go.ConcN Go.ConcN.Gen Go.RowKit Go.Conc.Lib Go.ConcR.Gen
open Go.ConcR (KK wgBlock WgAt stA smA rd wr mk Payload Aside2 DC0)
set_option linter.unusedVariables false
set_option linter.unusedSectionVars false

theorem lt_hD : ∀ (w w' : World) (es : Array Event), w.heap.size ≤ w'.heap.size → (∀ e ∈ es, EvP w'.heap.size e) → DT () w w' es () := fun _ _ _ h1 h2 => ⟨h1, h2⟩
/-- a lone contract of a plain function, in the family of ways of one that is alone -/
theorem callsL {Post : Value → World → Prop} {f : FuncId} (hf : plainF f = true) {args : Array Value} {w : World} {Q : Ending → World → Prop} {P' : Value → World → Prop} (h : Calls Try.prog f args w Q) (hq : ∀ e w', Q e w' → ∃ v, e = .returned v ∧ P' v w') :
    CallsT Try.prog (LT Try.prog Post) f args () w (fun v _ w' => P' v w') :=
  (callsT_of_calls plainP clo_lt (fun _ _ h => h) lt_hD hf h hq).mono fun _ _ _ h => h.2
theorem aside_low {N C Wg : Nat} {w w' w0 : World} (hC : N ≤ C) (hW : N ≤ Wg) (h : Aside2 C Wg w w') (hf : ∀ b, b < N → w.heap[b]? = w0.heap[b]?) : ∀ b, b < N → w'.heap[b]? = w0.heap[b]? := fun b hb => (h.block b (by omega) (by omega)).trans (hf b hb)
theorem t_enter {P : Program} {main : Bool} {γ : Type} {R : γ → World → World → Prop} {D : γ → World → World → Array Event → γ → Prop} {T : γ → Goroutine → World → Prop} {b : Frame} {a : Act} {k : List Item} {cs : List Frame} {y : γ} {w : World} {ops : Array Oper}
    (hT : Clo P main R D T) {i : Nat} {rest : List Nat} {o : Oper} {f : FuncId} {fn : Func} {code : Code} {args : Array Operand} {ats : Array TypeId} (ho : ops[i]? = some o) (hw : Region.wanted o (yielded ops a.tmps) = true) (hk : b.kind ≠ .early) (hs : o.semAt b.roundOf a.eval = execOp a.eval o)
    (hop : o.op = .call { callee := .value (.func f), args, argTypes := ats }) (hf : P.funcs[f]? = some fn) (hname : (fn.name == "runtime.NumGoroutine") = false) (hb : fn.body = some code)
    (h : T y (G (Frame.enter P f (args.map a.eval) .normal) (b.atR a (.inRegion ops (i :: rest) :: k) :: cs)) w) : T y (G (b.atR a (.inRegion ops (i :: rest) :: k)) cs) w := by
  have hb' : fn.body.isNone = false := by rw [hb]; rfl
  refine hT.ctl (g' := G (Frame.enter P f (args.map a.eval) .normal) (b.atR a (.inRegion ops (i :: rest) :: k) :: cs)) rfl (fun w => ?_) h
  rw [sG_enter ho hw hk hs (run_call_body hop hf hname hb')]
  have : listed P b.fn a o w = #[] := by unfold listed; rw [events_call_body hop hf hname hb']; exact seen_none P _
  rw [this]
section
variable {Post : Value → World → Prop} {A : Option Addr} {c : Nat} {xs : List Int} {w : World} {fr : Frame} {cs : List Frame}
set_option maxHeartbeats 4000000 in
theorem rootsOf_lt (hA : RdA w A xs) (hn : xs.length ≤ 1048577) (hno : mapOkB xs = false ∨ 4 < xs.length → ∀ w', Below w.heap.size w w' → LT Try.prog Post () (G (fr.finish (.slice none 0 0)) cs) w')
    (hyes : mapOkB xs = true → xs.length ≤ 4 → ∀ (Wg C : Nat) (Own Rd : Nat → Loc → Prop) (vals : List Value) (LW : Nat) (ad : Option Addr) (cp : Nat), w.heap.size ≤ C → w.heap.size ≤ Wg → ∃ mT, ∀ W, Below w.heap.size w W → WgLive wgL.tWg Wg W →
      Goes Try.prog true (RC wgL.tWg Wg C) (DP Wg Own Rd xs.length LW) (AtRet Try.prog Wg C xs.length Own Rd vals Post) mT (G (fr.finish (.slice ad (rootsL xs).length cp)) cs) W) :
    LT Try.prog Post () (G (Frame.enter Try.prog 11 #[.slice A xs.length c] .normal) (fr :: cs)) w := by
  rw [enter_atR _ Try.func11 rfl]
  have hT := clo_lt (P := Try.prog) (Post := Post)
  have hk : (base 11).kind ≠ .early := base_kind _
  have hro : (base 11).roundOf = none := rfl
  have hM := fun (w1 : World) (h : RdA w1 A xs) => callsL (Post := Post) (f := 40) (by rfl) (iMapOk_c A c xs w1 h hn) (P' := fun v w' => v = .bool (mapOkB xs) ∧ w1 = w') (fun e w' h => ⟨_, h.1, rfl, h.2⟩)
  have hB := fun (W : World) (cap : Array Value) (c0 : Frame) (cs : List Frame) => head41 (Post := Post) (fF := 42) (nn := xs.length) (cap := cap) (w := W) (c0 := c0) (cs := cs)
  have hE := fun (Wg C N bf : Nat) (c0 : Frame) (w0 : World) (W : World) => @mapsThat_ends Wg C
  clear hE
  generalize hT' : LT Try.prog Post = T at hT hM hB hno ⊢
  simp only [Try.ntmps11, List.size_toArray, List.length_cons, List.length_nil, Nat.reduceAdd, Nat.reduceSub, Array.replicate_succ, Array.replicate_zero, List.push_toArray, List.append_toArray, List.nil_append, List.cons_append]
  repeat (first | refine t_seq hT ?_ | refine t_block hT ?_ | refine t_skip hT ?_ | refine t_inBlock hT ?_ | refine t_rend hT ?_ | refine t_exit hT rfl ?_)
  refine t_region hT [0, 1] rfl ?_
  refine t_op hT rfl (by rfl) (by first | decide | assumption) (by first | rfl | (rw [hro]; rfl)) (fun w₁ hR K hK => ?_)
  have hR2 : _ = w₁ := Eq.symm hR
  subst hR2
  clear hR
  go_simp
  try (unfold stored; go_simp)
  try go_ints
  refine hK _ _ () (dt_nil (listed_nil (by simp [go_sem, *])) (by simp only [alloc_size]; omega)) ?_
  clear hK K
  try walk_nrm
  have hb1 : Below w.heap.size w (w.alloc (.cells #[.slice A xs.length c] 22)) := (Below.refl _ _).alloc (Nat.le_refl _) _
  have e1 : (w.alloc (.cells #[.slice A xs.length c] 22)).heap.size = w.heap.size + 1 := alloc_size
  have x1 : (w.alloc (.cells #[.slice A xs.length c] 22)).heap[w.heap.size]? = some (.cells #[.slice A xs.length c] 22) := Array.getElem?_push_size
  have hA1 := hA.below hb1
  generalize w.alloc (.cells #[.slice A xs.length c] 22) = W1 at *
  have hcl := cell_of_heap (k := 0) (v := .slice A xs.length c) x1 rfl
  refine t_op hT rfl (by rfl) (by first | decide | assumption) (by first | rfl | (rw [hro]; rfl)) (fun w₁ hR K hK => ?_)
  have hR2 : _ = w₁ := Eq.symm hR
  subst hR2
  clear hR
  go_simp
  try (unfold stored; go_simp)
  try go_ints
  refine hK _ _ () (dt_nil (listed_nil (by simp [go_sem, *])) (Nat.le_refl _)) ?_
  clear hK K
  try walk_nrm
  repeat (first | refine t_seq hT ?_ | refine t_block hT ?_ | refine t_skip hT ?_ | refine t_inBlock hT ?_ | refine t_rend hT ?_ | refine t_exit hT rfl ?_)
  refine t_region hT [0, 1, 2, 3, 4, 5, 6, 7] rfl ?_
  refine t_op hT rfl (by rfl) (by first | decide | assumption) (by first | rfl | (rw [hro]; rfl)) (fun w₁ hR K hK => ?_)
  have hR2 : _ = w₁ := Eq.symm hR
  subst hR2
  clear hR
  go_simp
  try (unfold stored; go_simp)
  try go_ints
  refine hK _ _ () (⟨Nat.le_refl _, by co_evs (exact evP_cell _ _ _ (by show w.heap.size < W1.heap.size; omega))⟩) ?_
  clear hK K
  try walk_nrm
  refine t_call hT rfl (by rfl) (by first | decide | assumption) (by first | rfl | (rw [hro]; rfl)) rfl Try.func40 (by rfl) rfl (by walk_nrm; exact hM W1 hA1) ?_
  rintro _ ⟨⟩ _ ⟨rfl, rfl⟩
  try walk_nrm
  cases hm : mapOkB xs with
  | false =>
    refine t_op hT rfl (by rfl) (by first | decide | assumption) (by first | rfl | (rw [hro]; rfl)) (fun w₁ hR K hK => ?_)
    have hR2 : _ = w₁ := Eq.symm hR
    subst hR2
    clear hR
    go_simp
    try (unfold stored; go_simp)
    try go_ints
    refine hK _ _ () (dt_nil (listed_nil (by simp [go_sem, *])) (Nat.le_refl _)) ?_
    clear hK K
    try walk_nrm
    refine t_op hT rfl (by rfl) (by first | decide | assumption) (by first | rfl | (rw [hro]; rfl)) (fun w₁ hR K hK => ?_)
    have hR2 : _ = w₁ := Eq.symm hR
    subst hR2
    clear hR
    go_simp
    try (unfold stored; go_simp)
    try go_ints
    refine hK _ _ () (dt_nil (listed_nil (by simp [go_sem, *])) (Nat.le_refl _)) ?_
    clear hK K
    try walk_nrm
    refine t_un hT rfl (by rfl) ?_
    try walk_nrm
    refine t_un hT rfl (by rfl) ?_
    try walk_nrm
    refine t_un hT rfl (by rfl) ?_
    try walk_nrm
    refine t_op hT rfl (by rfl) (by first | decide | assumption) (by first | rfl | (rw [hro]; rfl)) (fun w₁ hR K hK => ?_)
    have hR2 : _ = w₁ := Eq.symm hR
    subst hR2
    clear hR
    go_simp
    try (unfold stored; go_simp)
    try go_ints
    refine hK _ _ () (dt_nil (listed_nil (by simp [go_sem, *])) (Nat.le_refl _)) ?_
    clear hK K
    try walk_nrm
    repeat (first | refine t_seq hT ?_ | refine t_block hT ?_ | refine t_skip hT ?_ | refine t_inBlock hT ?_ | refine t_rend hT ?_ | refine t_exit hT rfl ?_)
    refine t_cond hT (t := _) rfl ?_
    simp only [if_true, if_false, reduceIte, Bool.false_eq_true, *]
    repeat (first | refine t_seq hT ?_ | refine t_block hT ?_ | refine t_skip hT ?_ | refine t_inBlock hT ?_ | refine t_rend hT ?_ | refine t_exit hT rfl ?_)
    refine t_region hT [0] rfl ?_
    refine t_op hT rfl (by rfl) (by first | decide | assumption) (by first | rfl | (rw [hro]; rfl)) (fun w₁ hR K hK => ?_)
    have hR2 : _ = w₁ := Eq.symm hR
    subst hR2
    clear hR
    go_simp
    try (unfold stored; go_simp)
    try go_ints
    refine hK _ _ () (dt_nil (listed_nil (by simp [go_sem, *])) (Nat.le_refl _)) ?_
    clear hK K
    try walk_nrm
    repeat (first | refine t_seq hT ?_ | refine t_block hT ?_ | refine t_skip hT ?_ | refine t_inBlock hT ?_ | refine t_rend hT ?_ | refine t_exit hT rfl ?_)
    subst hT'
    refine t_ret hT rfl rfl rfl Try.func11 (resultsC_tmp (by rfl) _) ?_
    exact hno (.inl hm) _ hb1
  | true =>
    refine t_op hT rfl (by rfl) (by first | decide | assumption) (by first | rfl | (rw [hro]; rfl)) (fun w₁ hR K hK => ?_)
    have hR2 : _ = w₁ := Eq.symm hR
    subst hR2
    clear hR
    go_simp
    try (unfold stored; go_simp)
    try go_ints
    refine hK _ _ () (dt_nil (listed_nil (by simp [go_sem, *])) (Nat.le_refl _)) ?_
    clear hK K
    try walk_nrm
    refine t_op hT rfl (by rfl) (by first | decide | assumption) (by first | rfl | (rw [hro]; rfl)) (fun w₁ hR K hK => ?_)
    have hR2 : _ = w₁ := Eq.symm hR
    subst hR2
    clear hR
    go_simp
    try (unfold stored; go_simp)
    try go_ints
    refine hK _ _ () (dt_nil (listed_nil (by simp [go_sem, *])) (Nat.le_refl _)) ?_
    clear hK K
    try walk_nrm
    refine t_op hT rfl (by rfl) (by first | decide | assumption) (by first | rfl | (rw [hro]; rfl)) (fun w₁ hR K hK => ?_)
    have hR2 : _ = w₁ := Eq.symm hR
    subst hR2
    clear hR
    go_simp
    try (unfold stored; go_simp)
    try go_ints
    refine hK _ _ () (⟨Nat.le_refl _, by co_evs (exact evP_cell _ _ _ (by show w.heap.size < W1.heap.size; omega))⟩) ?_
    clear hK K
    try walk_nrm
    refine t_op hT rfl (by rfl) (by first | decide | assumption) (by first | rfl | (rw [hro]; rfl)) (fun w₁ hR K hK => ?_)
    have hR2 : _ = w₁ := Eq.symm hR
    subst hR2
    clear hR
    go_simp
    try (unfold stored; go_simp)
    try go_ints
    refine hK _ _ () (dt_nil (listed_nil (by simp [go_sem, *])) (Nat.le_refl _)) ?_
    clear hK K
    try walk_nrm
    by_cases h4 : xs.length ≤ 4
    · have hd : decide (4 < (xs.length : Int)) = false := by simp; omega
      refine t_op hT rfl (by rfl) (by first | decide | assumption) (by first | rfl | (rw [hro]; rfl)) (fun w₁ hR K hK => ?_)
      have hR2 : _ = w₁ := Eq.symm hR
      subst hR2
      clear hR
      go_simp
      try (unfold stored; go_simp)
      try go_ints
      refine hK _ _ () (dt_nil (listed_nil (by simp [go_sem, *])) (Nat.le_refl _)) ?_
      clear hK K
      try walk_nrm
      refine t_op hT rfl (by rfl) (by first | decide | assumption) (by first | rfl | (rw [hro]; rfl)) (fun w₁ hR K hK => ?_)
      have hR2 : _ = w₁ := Eq.symm hR
      subst hR2
      clear hR
      go_simp
      try (unfold stored; go_simp)
      try go_ints
      refine hK _ _ () (dt_nil (listed_nil (by simp [go_sem, *])) (Nat.le_refl _)) ?_
      clear hK K
      try walk_nrm
      repeat (first | refine t_seq hT ?_ | refine t_block hT ?_ | refine t_skip hT ?_ | refine t_inBlock hT ?_ | refine t_rend hT ?_ | refine t_exit hT rfl ?_)
      refine t_cond hT (t := _) rfl ?_
      simp only [if_true, if_false, reduceIte, Bool.false_eq_true, *]
      repeat (first | refine t_seq hT ?_ | refine t_block hT ?_ | refine t_skip hT ?_ | refine t_inBlock hT ?_ | refine t_rend hT ?_ | refine t_exit hT rfl ?_)
      refine t_region hT [0, 1, 2, 3, 4] rfl ?_
      refine t_op hT rfl (by rfl) (by first | decide | assumption) (by first | rfl | (rw [hro]; rfl)) (fun w₁ hR K hK => ?_)
      have hR2 : _ = w₁ := Eq.symm hR
      subst hR2
      clear hR
      go_simp
      try (unfold stored; go_simp)
      try go_ints
      refine hK _ _ () (⟨Nat.le_refl _, by co_evs (exact evP_cell _ _ _ (by show w.heap.size < W1.heap.size; omega))⟩) ?_
      clear hK K
      try walk_nrm
      refine t_op hT rfl (by rfl) (by first | decide | assumption) (by first | rfl | (rw [hro]; rfl)) (fun w₁ hR K hK => ?_)
      have hR2 : _ = w₁ := Eq.symm hR
      subst hR2
      clear hR
      go_simp
      try (unfold stored; go_simp)
      try go_ints
      refine hK _ _ () (dt_nil (listed_nil (by simp [go_sem, *])) (Nat.le_refl _)) ?_
      clear hK K
      try walk_nrm
      refine t_op hT rfl (by rfl) (by first | decide | assumption) (by first | rfl | (rw [hro]; rfl)) (fun w₁ hR K hK => ?_)
      have hR2 : _ = w₁ := Eq.symm hR
      subst hR2
      clear hR
      go_simp
      try (unfold stored; go_simp)
      try go_ints
      refine hK _ _ () (dt_nil (listed_nil (by simp [go_sem, *])) (Nat.le_refl _)) ?_
      clear hK K
      try walk_nrm
      have h1 : 1 ≤ xs.length := (mapOkB_elim hm).1.1
      refine t_enter hT rfl (by rfl) (by first | decide | assumption) (by first | rfl | (rw [hro]; rfl)) rfl Try.func41 (by rfl) rfl ?_
      walk_nrm
      refine hB W1 _ _ _ (by omega) (fun a w' hLv hk' hsz hq ht hx hg hr => ?_)
      have hF2 : ∀ w2 w3 : World, Aside2 (W1.heap.size + 3) (W1.heap.size + 2) w2 w3 → (∀ b, b < W1.heap.size → w2.heap[b]? = W1.heap[b]?) → ∀ b, b < W1.heap.size → w3.heap[b]? = W1.heap[b]? := fun w2 w3 h hf => aside_low (by omega) (by omega) h hf
      refine mapsThat_ends (Wg := W1.heap.size + 2) (C := W1.heap.size + 3) (bT := W1.heap.size) (bX := W1.heap.size + 1) (SF := fun b => b < W1.heap.size) (Fq := fun W => ∀ b, b < W1.heap.size → W.heap[b]? = W1.heap[b]?) (p := fun g => decide (behindL g g = xs)) (Rj := rowsOf xs.length)
        (tst_roots h1 h4 rfl (by omega) x1 hA1) (Nat.le_trans (thatL_len h4) (by omega)) hLv ?_ hg (Nat.le_refl _) hF2 (fun Own Rd vals LW ad cp => ?_)
      · refine ⟨fun b hb => hb.elim False.elim (·.1), ⟨by omega, by omega⟩, id, id, fun h => h.2 rfl, ⟨0, 0, hg⟩, ⟨_, hr, madeCells_size _ _⟩, fun i c ls hi => by simp at hi, ⟨.inr ⟨by omega, by omega⟩, by omega⟩, ht, ⟨.inr ⟨by omega, by omega⟩, by omega⟩, cell_of_heap (k := 0) hx rfl, fun b hb => ⟨⟨by omega, by omega⟩, by omega⟩, hk', fun b hb => hb.elim⟩
      · obtain ⟨mT, h⟩ := hyes hm h4 (W1.heap.size + 2) (W1.heap.size + 3) Own Rd vals LW ad cp (by omega) (by omega)
        refine ⟨mT + 10, rootsOf_back (F := fun W => (∀ b, b < W1.heap.size → W.heap[b]? = W1.heap[b]?) ∧ Kept w' W ∧ w'.heap.size ≤ W.heap.size) (fun w2 w3 ha hf => ⟨hF2 w2 w3 ha hf.1, hf.2.1.trans ⟨ha.tape, ha.os, ha.output⟩, by rw [ha.size]; exact hf.2.2⟩) _ _ _ _ _ _ _ _ _ _ _ _ _ _ _ _ (fun W hF hl => h W ⟨?_, ?_, ?_, by omega, fun b hb => (hF.1 b (by omega)).trans (hb1.block b hb)⟩ hl)⟩
        · exact hF.2.1.2.1.trans (hq.2.1.trans hb1.os)
        · exact hF.2.1.1.trans (hq.1.trans hb1.tape)
        · exact hF.2.1.2.2.trans (hq.2.2.trans hb1.output)
    · have hd : decide (4 < (xs.length : Int)) = true := by simp; omega
      refine t_op hT rfl (by rfl) (by first | decide | assumption) (by first | rfl | (rw [hro]; rfl)) (fun w₁ hR K hK => ?_)
      have hR2 : _ = w₁ := Eq.symm hR
      subst hR2
      clear hR
      go_simp
      try (unfold stored; go_simp)
      try go_ints
      refine hK _ _ () (dt_nil (listed_nil (by simp [go_sem, *])) (Nat.le_refl _)) ?_
      clear hK K
      try walk_nrm
      refine t_op hT rfl (by rfl) (by first | decide | assumption) (by first | rfl | (rw [hro]; rfl)) (fun w₁ hR K hK => ?_)
      have hR2 : _ = w₁ := Eq.symm hR
      subst hR2
      clear hR
      go_simp
      try (unfold stored; go_simp)
      try go_ints
      refine hK _ _ () (dt_nil (listed_nil (by simp [go_sem, *])) (Nat.le_refl _)) ?_
      clear hK K
      try walk_nrm
      repeat (first | refine t_seq hT ?_ | refine t_block hT ?_ | refine t_skip hT ?_ | refine t_inBlock hT ?_ | refine t_rend hT ?_ | refine t_exit hT rfl ?_)
      refine t_cond hT (t := _) rfl ?_
      simp only [if_true, if_false, reduceIte, Bool.false_eq_true, *]
      repeat (first | refine t_seq hT ?_ | refine t_block hT ?_ | refine t_skip hT ?_ | refine t_inBlock hT ?_ | refine t_rend hT ?_ | refine t_exit hT rfl ?_)
      refine t_region hT [0] rfl ?_
      refine t_op hT rfl (by rfl) (by first | decide | assumption) (by first | rfl | (rw [hro]; rfl)) (fun w₁ hR K hK => ?_)
      have hR2 : _ = w₁ := Eq.symm hR
      subst hR2
      clear hR
      go_simp
      try (unfold stored; go_simp)
      try go_ints
      refine hK _ _ () (dt_nil (listed_nil (by simp [go_sem, *])) (Nat.le_refl _)) ?_
      clear hK K
      try walk_nrm
      repeat (first | refine t_seq hT ?_ | refine t_block hT ?_ | refine t_skip hT ?_ | refine t_inBlock hT ?_ | refine t_rend hT ?_ | refine t_exit hT rfl ?_)
      subst hT'
      refine t_ret hT rfl rfl rfl Try.func11 (resultsC_tmp (by rfl) _) ?_
      exact hno (.inr (by omega)) _ hb1
end
end Go.Proofs.Ytkbfcaaihellfaa

/- The law FnTurnRootOk behind its workers: to its return, in numbers (the kit's words). -/
namespace Go.Proofs.Ytkbfcaaihellfaa
open Go.Conc Go.ConcN Go.ConcN.Gen Go.RowKit Go.Conc.Lib Go.ConcR.Gen
open Go.ConcR (KK wgBlock WgAt stA smA rd wr mk Payload Aside2 DC0)
set_option linter.unusedVariables false
set_option linter.unusedSectionVars false

noncomputable def o7 : Array Oper := match (Try.f7).body with
  | some (.seq _ (.seq _ (.seq _ (.seq _ (.seq _ (.seq _ (.seq _ (.seq (.region _ ops _) _)))))))) => ops
  | _ => #[]
theorem ret_done {f : FuncId} {fn : Func} {t : Tmp} {a : Act} {k : List Item} {w : World} {v : Value} (hd : a.defers = []) (hf : Try.prog.funcs[f]? = some fn) (hr : fn.results = #[.tmp t]) (hi : Try.prog.inits.idxOf? f = none) (hv : a.tmps.getD t undef = v) :
    stepG Try.prog true (G { (base f).at a k with mode := .returning } []) w = .ended (.done v) w #[] := by
  have hc := resultsC_tmp (P := Try.prog) hr a.tmps w
  rw [hv] at hc
  simp only [Frame.at, base, G]
  unfold stepG
  simp at hi
  simp [unwind, hd, hf, hc.1, hc.2, doReturn, hi, GStep.after, seen]
theorem evs_eqb (b b' : Bool) (w : World) : (binOp .eql 4 (.bool b) (.bool b')).events Try.prog w #[] = #[] := by
  cases b <;> cases b' <;> kernel_rfl
theorem evs_neb (b b' : Bool) (w : World) : (binOp .neq 4 (.bool b) (.bool b')).events Try.prog w #[] = #[] := by
  cases b <;> cases b' <;> kernel_rfl
section
variable {Wg C nn LW : Nat} {Own Rd : Nat → Loc → Prop} {F : World → Prop} {vals : List Value} {Post : Value → World → Prop}
set_option maxHeartbeats 4000000 in
theorem law_back (hF2 : ∀ w w', Aside2 C Wg w w' → F w → F w') (hP : ∀ w, F w → Post (.bool true) w) (v0 v1 v2 v3 v4 v5 v6 v7 v8 v9 v10 v11 v12 v13 v14 v15 v16 v17 v18 v19 v20 v21 v22 v23 v24 v25 v26 v27 v28 v29 v30 v31 v32 v33 v34 v35 v36 v37 v38 v39 v40 v41 v42 v43 v44 v45 v46 : Value) (b : Bool) (ad : Option Addr) (n cp : Nat) (hb : decide (0 < n) = b) :
    ∀ w, F w → WgLive wgL.tWg Wg w → Goes Try.prog true (RC wgL.tWg Wg C) (DP Wg Own Rd nn LW) (AtRet Try.prog Wg C nn Own Rd vals Post) 20 (G (((base 7).atR ⟨#[v0, v1, v2, v3, v4, v5, v6, v7, v8, v9, v10, v11, v12, v13, v14, v15, v16, v17, v18, v19, v20, v21, v22, v23, v24, v25, v26, v27, v28, v29, v30, v31, v32, v33, .bool true, v35, v36, v37, .bool false, .bool b, v40, v41, v42, v43, v44, v45, v46], []⟩ [.inRegion o7 [11, 12, 13, 14, 15, 16, 17], .code .ret]).finish (.slice ad n cp)) []) w := by
  intro w hF hl
  replace hF := And.intro hF hl
  clear hl
  rw [Frame.finish_atR]
  simp only [o7, Try.f7]
  change Goes _ _ _ _ _ _ (G ((base 7).at _ _) _) w
  walk_nrm
  have hev := evs_eqb b b
  u_op (f_rely hF2) hF
  u_op (f_rely hF2) hF
  u_op (f_rely hF2) hF
  u_op (f_rely hF2) hF
  u_op (f_rely hF2) hF
  u_op (f_rely hF2) hF
  u_c stepG_region_end (f_rely hF2) hF
  u_c stepG_ret' (f_rely hF2) hF
  refine Goes.stop fun w₁ h₁ => ?_
  replace hF := f_rely hF2 hF h₁
  refine ⟨rfl, fun _ => ⟨.bool true, #[], ?_, by simp, hP _ hF.1⟩⟩
  exact ret_done rfl Try.func7 rfl (by kernel_rfl) rfl
end
end Go.Proofs.Ytkbfcaaihellfaa

/- The law FnTurnRootOk at its call of RootsOf. -/
namespace Go.Proofs.Ytkbfcaaihellfaa
open Go.Conc Go.ConcN Go.ConcN.Gen Go.RowKit Go.Conc.Lib Go.ConcR.Gen
open Go.ConcR (KK wgBlock WgAt stA smA rd wr mk Payload Aside2 DC0)
set_option linter.unusedVariables false
set_option linter.unusedSectionVars false

section
variable {Post : Value → World → Prop} {A : Option Addr} {c : Nat} {xs : List Int} {w : World}
set_option maxHeartbeats 2000000 in
theorem law_roots (hP : ∀ w', Below w.heap.size w w' → Post (.bool true) w') (v0 v1 v2 v3 v4 v5 v6 v7 v8 v9 v10 v11 v12 v13 v14 v15 v16 v17 v18 v19 v20 v21 v22 v23 v24 v25 v26 v27 v28 v29 v30 v31 v32 v33 v34 v35 v36 v37 v38 v39 v40 v41 v42 v43 v44 v45 v46 : Value) (ok : Bool) (hA : RdA w A xs) (hm : mapOkB xs = true) (h4 : xs.length ≤ 4) (hri : decide (0 < (rootsL xs).length) = ok) :
    LT Try.prog Post () (G ((base 7).atR ⟨#[v0, v1, v2, v3, v4, v5, v6, v7, v8, v9, v10, v11, v12, v13, v14, v15, v16, v17, v18, v19, v20, v21, v22, v23, v24, v25, v26, v27, v28, v29, v30, v31, v32, v33, .bool true, v35, v36, v37, .bool false, .bool ok, .slice A xs.length c, v41, v42, v43, v44, v45, v46], []⟩ [.inRegion o7 [11, 12, 13, 14, 15, 16, 17], .code .ret]) []) w := by
  have hT := clo_lt (P := Try.prog) (Post := Post)
  have hRo := rootsOf_lt (Post := Post) (A := A) (c := c) (xs := xs) (w := w) (fr := (base 7).atR ⟨#[v0, v1, v2, v3, v4, v5, v6, v7, v8, v9, v10, v11, v12, v13, v14, v15, v16, v17, v18, v19, v20, v21, v22, v23, v24, v25, v26, v27, v28, v29, v30, v31, v32, v33, .bool true, v35, v36, v37, .bool false, .bool ok, .slice A xs.length c, v41, v42, v43, v44, v45, v46], []⟩ [.inRegion o7 [11, 12, 13, 14, 15, 16, 17], .code .ret]) (cs := []) hA (by omega) (fun h => by
      rw [hm] at h
      rcases h with h | h
      · cases h
      · omega) (fun _ _ Wg C Own Rd vals LW ad cp hC hW => ⟨20, law_back (F := fun W => Below w.heap.size w W) (fun w1 w2 ha hb => ⟨ha.os.trans hb.os, ha.tape.trans hb.tape, ha.output.trans hb.output, by rw [ha.size]; exact hb.size, fun k hk => (ha.block k (by omega) (by omega)).trans (hb.block k hk)⟩) hP v0 v1 v2 v3 v4 v5 v6 v7 v8 v9 v10 v11 v12 v13 v14 v15 v16 v17 v18 v19 v20 v21 v22 v23 v24 v25 v26 v27 v28 v29 v30 v31 v32 v33 v34 v35 v36 v37 v38 v39 (.slice A xs.length c) v41 v42 v43 v44 v45 v46 ok ad _ cp hri⟩)
  generalize LT Try.prog Post = T at hT hRo ⊢
  simp only [o7, Try.f7] at hRo ⊢
  refine t_enter hT rfl (by rfl) (base_kind _) rfl rfl Try.func11 (by rfl) rfl ?_
  walk_nrm
  exact hRo
end
end Go.Proofs.Ytkbfcaaihellfaa
