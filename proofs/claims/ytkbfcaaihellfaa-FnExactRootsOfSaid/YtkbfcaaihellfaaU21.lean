/- Steps on the way to the law; each part says what it proves. -/
import Derived.Test.YtkbfcaaihellfaaU20

set_option linter.unusedSimpArgs false

/- Walks in company: mapsThat starts a worker. -/
namespace Go.Proofs.Ytkbfcaaihellfaa
open Go.Conc Go.ConcN Go.RowKit
open Go.ConcR (KK wgBlock WgAt stA smA rd wr mk Payload Aside2 DC0)
set_option linter.unusedVariables false
set_option linter.unusedSectionVars false

theorem infoRow : (Try.prog.info? 22).isSome = true := by kernel_rfl
theorem run_mkch (w : World) : (Instr.makeChan 62 (.int .i64 0)).run Try.prog w = .ok (.chan (some w.heap.size)) (w.alloc (.chan 0 #[] false 0 0 false)) := by
  obtain ⟨i, hi⟩ := Option.isSome_iff_exists.1 infoRow
  exact run_makeChan Try.underlying62 hi .i64 0 (by decide) (by simp)
theorem evs_mkch (w : World) (es : Array Event) : (Instr.makeChan 62 (.int .i64 0)).events Try.prog w es = es := by
  obtain ⟨i, hi⟩ := Option.isSome_iff_exists.1 infoRow
  exact events_makeChan Try.underlying62 hi .i64 0 (by decide) (by simp) es
theorem set_one {w : World} {b : Nat} {v0 v : Value} {t : TypeId} (h : w.heap[b]? = some (.cells #[v0] t)) : (w.setCell ⟨b, 0, none⟩ v).heap[b]? = some (.cells #[v] t) := by
  simp only [World.setCell]
  rw [Array.getElem?_modify, if_pos rfl, h]
  rfl
section
variable {P : Program} {main : Bool} {b : Frame} {a a' : Act} {k : List Item} {cs : List Frame} {w w' : World} {ops : Array Oper}
theorem sG_upon {es : Array Event} {i : Nat} {rest : List Nat} {o : Oper} (ho : ops[i]? = some o) (hw : Region.wanted o (yielded ops a.tmps) = true) (hk : b.kind ≠ .early) (hs : o.semAt b.roundOf a.eval = execOp a.eval o)
    (h : ∀ K : Act → World → Prop, K a' w' → uponK o a K ((execOp a.eval o).run P w)) (he : listed P b.fn a o w = es) : stepG P main (G (b.atR a (.inRegion ops (i :: rest) :: k)) cs) w = .go (G (b.atR a' (.inRegion ops rest :: k)) cs) w' es := by
  subst he
  have := h (fun x z => x = a' ∧ z = w') ⟨rfl, rfl⟩
  generalize hr : (execOp a.eval o).run P w = res at this
  match res, this with
  | .ok (.value v) w', ⟨e1, e2⟩ => rw [← e1, ← e2]; exact sG_value ho hw hk hs hr
  | .ok .skip w', ⟨e1, e2⟩ => rw [← e1, ← e2]; exact sG_none ho hw hk hs hr
end
theorem loud41 : (Try.prog.funcs[41]?).any (·.norace) = false := by rw [Try.func41]; rfl
/-- the lanes are what the workers write -/
instance payL : Payload := ⟨62⟩

noncomputable def c41 : Code × Code := match (Try.f41).body with
  | some (.seq _ (.seq _ (.seq _ (.seq (.seq _ (.block _ (.loop a))) b)))) => (a, b)
  | _ => (.skip, .skip)
noncomputable def o41 : Array Oper × Code := match c41.1 with
  | .seq _ (.seq _ (.seq (.block _ (.seq _ (.seq _ (.seq _ (.seq _ (.region _ ops _)))))) r)) => (ops, r)
  | _ => (#[], .skip)
/-- behind a go statement -/
noncomputable def k41 : List Item := [.inBlock 1, .code o41.2, .inLoop c41.1, .inBlock 0, .code c41.2]

/-- what stands in mapsThat's frame while it starts workers -/
def Live41 (Wg C bT bX nn j : Nat) (a : Act) : Prop := a.defers = [] ∧ a.tmps.size = 45 ∧ a.tmps.getD 2 undef = .pointer (some ⟨bT, 0, none⟩) ∧ a.tmps.getD 3 undef = .pointer (some ⟨bX, 0, none⟩) ∧ a.tmps.getD 5 undef = .pointer (some ⟨Wg, 0, none⟩) ∧
  a.tmps.getD 6 undef = .slice (some ⟨C, 0, none⟩) nn nn ∧ a.tmps.getD 16 undef = .int .i64 nn ∧ a.tmps.getD 17 undef = .int .i64 j
/-- what it knows of the memory -/
structure MI (ty : TypeId) (Wg C bT bX fF nn : Nat) (cap : Array Value) (SF : Nat → Prop) (Fq : World → Prop) (S : Nat → Prop) (y : Gh) (L : List (Nat × List (List Int))) (w : World) : Prop where
  bd : Bd S y w
  sC : S C
  mC : ¬ y.1 C
  mW : ¬ y.1 Wg
  sW : ¬ S Wg
  live : WgLive ty Wg w
  pay : PayAt C nn w
  has : ∀ i c ls, L[i]? = some (c, ls) → Has C i (.chan (some c)) w
  mT : (y.1 bT ∨ S bT) ∧ bT ≠ C
  bT : w.heap[bT]? = some (.cells #[.int .i64 nn] 3)
  mX : (y.1 bX ∨ S bX) ∧ bX ≠ C
  bX : w.cell? ⟨bX, 0, none⟩ = some (.func (.func fF) #[] cap)
  sf : ∀ b, SF b → S b ∧ b ≠ C
  fq : Fq w
  dj : ∀ b, y.1 b → ¬ S b
section
variable {ty : TypeId} {Wg C bT bX fF nn : Nat} {cap : Array Value} {SF : Nat → Prop} {Fq : World → Prop} {S : Nat → Prop} {y : Gh} {L : List (Nat × List (List Int))} {w w1 : World}
theorem live_lt' (h : WgLive ty Wg w) : Wg < w.heap.size := live_lt h
theorem MI.rely (hFq : ∀ w w₁ : World, (∀ b, SF b → w₁.heap[b]? = w.heap[b]?) → Fq w → Fq w₁) (h : MI ty Wg C bT bX fF nn cap SF Fq S y L w) (r : RG ty Wg S y w w1) : MI ty Wg C bT bX fF nn cap SF Fq S y L w1 :=
  have eC := r.keep C (.inr h.sC)
  ⟨fun b hb => Nat.lt_of_lt_of_le (h.bd b hb) r.size, h.sC, h.mC, h.mW, h.sW, r.live h.live, by obtain ⟨cs, h1, h2⟩ := h.pay; exact ⟨cs, eC.trans h1, h2⟩, fun i c ls hi => by have := h.has i c ls hi; unfold Has at *; rw [← this]; simp [World.cell?, eC], h.mT, (r.keep bT h.mT.1).trans h.bT, h.mX,
    (cell_rely (a := ⟨bX, 0, none⟩) h.mX.1 r).trans h.bX, h.sf, hFq w w1 (fun b hb => r.keep b (.inr (h.sf b hb).1)) h.fq, h.dj⟩
theorem MI.alloc (hFq : ∀ w w₁ : World, (∀ b, SF b → w₁.heap[b]? = w.heap[b]?) → Fq w → Fq w₁) (h : MI ty Wg C bT bX fF nn cap SF Fq S y L w) (o : Obj) : MI ty Wg C bT bX fF nn cap SF Fq S (more y.1 w (w.alloc o), y.2) L (w.alloc o) := by
  have hC := h.bd C (.inr h.sC)
  have h1 := h.rely hFq (rg_alloc h.bd o)
  have hW := live_lt h.live
  refine ⟨(gw_alloc (ty := ty) (Wg := Wg) h.bd o).bd, h.sC, fun e => e.elim h.mC fun e => by omega, fun e => e.elim h.mW fun e => by omega, h.sW, h1.live, h1.pay, h1.has, ⟨h.mT.1.imp .inl id, h.mT.2⟩, h1.bT, ⟨h.mX.1.imp .inl id, h.mX.2⟩, h1.bX, h.sf, h1.fq, fun b hb hS => hb.elim (fun hb => h.dj b hb hS) fun hb => by have := h.bd b (.inr hS); omega⟩
theorem MI.store (hFq : ∀ w w₁ : World, (∀ b, SF b → w₁.heap[b]? = w.heap[b]?) → Fq w → Fq w₁) (h : MI ty Wg C bT bX fF nn cap SF Fq S y L w) {N k : Nat} (v : Value) (hN : N ≠ C ∧ N ≠ Wg ∧ N ≠ bT ∧ N ≠ bX ∧ ¬ SF N) : MI ty Wg C bT bX fF nn cap SF Fq S y L (w.setCell ⟨N, k, none⟩ v) := by
  have g : ∀ {b}, b ≠ N → (w.setCell ⟨N, k, none⟩ v).heap[b]? = w.heap[b]? := fun hb => set_get hb
  have eC := g (Ne.symm hN.1)
  refine ⟨fun b hb => by rw [set_size]; exact h.bd b hb, h.sC, h.mC, h.mW, h.sW, live_heap (g (Ne.symm hN.2.1)) h.live, by obtain ⟨cs, h1, h2⟩ := h.pay; exact ⟨cs, eC.trans h1, h2⟩, fun i c ls hi => by have := h.has i c ls hi; unfold Has at *; rw [← this]; simp only [World.cell?, eC], h.mT, (g (Ne.symm hN.2.2.1)).trans h.bT, h.mX, ?_, h.sf, hFq w _ (fun b hb => g fun e => hN.2.2.2.2 (by rw [← e]; exact hb)) h.fq, h.dj⟩
  have := h.bX
  rw [← this]
  simp only [World.cell?, g (Ne.symm hN.2.2.2.1)]
/-- the lane is stored -/
theorem MI.lane (hFq : ∀ w w₁ : World, (∀ b, SF b → w₁.heap[b]? = w.heap[b]?) → Fq w → Fq w₁) (h : MI ty Wg C bT bX fF nn cap SF Fq S y L w) (hj : L.length < nn) (c : Nat) (ls : List (List Int)) : MI ty Wg C bT bX fF nn cap SF Fq S y (L ++ [(c, ls)]) (w.setCell ⟨C, L.length, none⟩ (.chan (some c))) := by
  have g : ∀ {b}, b ≠ C → (w.setCell ⟨C, L.length, none⟩ (.chan (some c))).heap[b]? = w.heap[b]? := fun hb => set_get hb
  obtain ⟨cs, h1, h2⟩ := h.pay
  have eC : (w.setCell ⟨C, L.length, none⟩ (.chan (some c))).heap[C]? = some (.cells (cs.setIfInBounds L.length (.chan (some c))) Payload.ety) := by
    simp only [World.setCell]
    rw [Array.getElem?_modify, if_pos rfl, h1]
    rfl
  refine ⟨fun b hb => by rw [set_size]; exact h.bd b hb, h.sC, h.mC, h.mW, h.sW, live_heap (g (fun e => h.sW (by rw [e]; exact h.sC))) h.live, ⟨_, eC, by simp [h2]⟩, fun i c' ls' hi => ?_, h.mT, (g h.mT.2).trans h.bT, h.mX, ?_, h.sf, hFq w _ (fun b hb => g (h.sf b hb).2) h.fq, h.dj⟩
  · unfold Has
    simp only [World.cell?, eC]
    by_cases e : i = L.length
    · subst e
      rw [List.getElem?_append_right (Nat.le_refl _)] at hi
      simp at hi
      simp [h2, hj, hi.1]
    · have hlt : i < L.length := by
        have := (List.getElem?_eq_some_iff.1 hi).1
        simp at this
        omega
      rw [List.getElem?_append_left hlt] at hi
      have := h.has i c' ls' hi
      unfold Has at this
      simp only [World.cell?, h1] at this
      rw [← this]
      simp [Array.getElem?_setIfInBounds_ne (Ne.symm e)]
  · have := h.bX
    rw [← this]
    simp only [World.cell?, g h.mX.2]
theorem MI.setWg (hFq : ∀ w w₁ : World, (∀ b, SF b → w₁.heap[b]? = w.heap[b]?) → Fq w → Fq w₁) (h : MI ty Wg C bT bX fF nn cap SF Fq S y L w) {k : Nat} (v : Value) (hl : WgLive ty Wg (w.setCell ⟨Wg, k, none⟩ v)) : MI ty Wg C bT bX fF nn cap SF Fq S y L (w.setCell ⟨Wg, k, none⟩ v) := by
  have ne : ∀ {b}, y.1 b ∨ S b → b ≠ Wg := fun hb e => by rw [e] at hb; exact hb.elim h.mW h.sW
  have g : ∀ {b}, b ≠ Wg → (w.setCell ⟨Wg, k, none⟩ v).heap[b]? = w.heap[b]? := fun hb => set_get hb
  have eC := g (ne (.inr h.sC))
  refine ⟨fun b hb => by rw [set_size]; exact h.bd b hb, h.sC, h.mC, h.mW, h.sW, hl, by obtain ⟨cs, h1, h2⟩ := h.pay; exact ⟨cs, eC.trans h1, h2⟩, fun i c ls hi => by have := h.has i c ls hi; unfold Has at *; rw [← this]; simp only [World.cell?, eC], h.mT, (g (ne h.mT.1)).trans h.bT, h.mX, ?_, h.sf, hFq w _ (fun b hb => g (ne (.inr (h.sf b hb).1))) h.fq, h.dj⟩
  have := h.bX
  rw [← this]
  simp only [World.cell?, g (ne h.mX.1)]
theorem MI.fresh (h : MI ty Wg C bT bX fF nn cap SF Fq S y L w) {b : Nat} (hb : w.heap.size ≤ b) : (b ≠ C ∧ b ≠ Wg ∧ b ≠ bT ∧ b ≠ bX ∧ ¬ SF b) ∧ ¬ (y.1 b ∨ S b) := by
  have f : ∀ x, y.1 x ∨ S x → b ≠ x := fun x hx e => by have := h.bd x hx; omega
  have hW := live_lt h.live
  exact ⟨⟨f C (.inr h.sC), by omega, f bT h.mT.1, f bX h.mX.1, fun e => f b (.inr (h.sf b e).1) rfl⟩, fun e => f b e rfl⟩
end
theorem laneM_of {P : Program} {b : Frame} {a : Act} {k : List Item} {cs : List Frame} {w : World} {ops : Array Oper} {C n j c : Nat} {K : Nat → Goroutine → World → Prop} {M : Nat → Prop} {i : Nat} {rest : List Nat} {o : Oper} (ho : ops[i]? = some o) (hw : Region.wanted o (yielded ops a.tmps) = true) (hk : b.kind ≠ .early) (hs : o.semAt b.roundOf a.eval = execOp a.eval o)
    (hM : M c) (hp : PayAt C n w) (hr : ∀ K : Act → World → Prop, K (a.put o.dst undef) (w.setCell ⟨C, j, none⟩ (.chan (some c))) → uponK o a K ((execOp a.eval o).run P w)) (he : listed P b.fn a o w = #[⟨.cell ⟨C, j, none⟩, true, false⟩])
    (h : K c (G (b.atR (a.put o.dst undef) (.inRegion ops rest :: k)) cs) (w.setCell ⟨C, j, none⟩ (.chan (some c)))) : AtLaneM P C n j K M (G (b.atR a (.inRegion ops (i :: rest) :: k)) cs) w :=
  ⟨rfl, _, c, hM, hp, sG_upon ho hw hk hs hr he, h⟩
theorem goM_of {P : Program} {b : Frame} {a : Act} {k : List Item} {cs : List Frame} {w : World} {ops : Array Oper} {ty : TypeId} {Wg C n LW j c : Nat} {Rw : List Int → Nat → Obj → Value → Prop} {S S' M : Nat → Prop} {ls : List (List Int)} {K : (Nat → Prop) → (Nat → Prop) → Goroutine → World → Prop} {i : Nat} {rest : List Nat} {o : Oper} {d : Deferred} {fid : Fn} {cap : Array Value}
    (hro : b.roundOf = none) (ho : ops[i]? = some o) (hw : Region.wanted o (yielded ops a.tmps) = true) (hk : b.kind ≠ .early) (hr : (execOp a.eval o).run P w = .ok (.spawn d) w) (he : (execOp a.eval o).events P w #[] = #[]) (hd : d.target = .fn fid cap)
    (h1 : ∀ b, S' b → M b ∨ S b) (h2 : M c) (h3 : ¬ S' c) (h4 : ¬ S' C) (h5 : w.heap[c]? = some (.chan 0 #[] false 0 0 false)) (h6 : Has C j (.chan (some c)) w) (h7 : WScr P ty Wg C n LW Rw S' c (j + 1) ls (fun _ => False) (born P d) w)
    (h8 : K (fun b => S b ∨ S' b) (fun b => M b ∧ ¬ S' b ∧ b ≠ c) (G (b.atR (a.put o.dst undef) (.inRegion ops rest :: k)) cs) w) : AtGoM P ty Wg C n LW Rw S j ls c K M (G (b.atR a (.inRegion ops (i :: rest) :: k)) cs) w := by
  refine ⟨rfl, _, born P d, S', ?_, rfl, h1, h2, h3, h4, h5, h6, h7, h8⟩
  rw [Frame.atR_of_none hro, Frame.atR_of_none hro, stepG_spawn ho hw hk hr hd]
  unfold listed
  rw [he]
  rw [show seen P b.fn #[] = #[] from seen_none P _]
end Go.Proofs.Ytkbfcaaihellfaa

/- Walks in company: one worker is started. -/
namespace Go.Proofs.Ytkbfcaaihellfaa
open Go.Conc Go.ConcN Go.ConcN.Gen Go.RowKit Go.Conc.Lib Go.ConcR.Gen
open Go.ConcR (KK wgBlock WgAt stA smA rd wr mk Payload Aside2 DC0)
set_option linter.unusedVariables false
set_option linter.unusedSectionVars false

section
variable {Wg C LW bT bX fF nn : Nat} {cap : Array Value} {SF : Nat → Prop} {Fq : World → Prop} {S : Nat → Prop} {y : Gh} {w : World} {cs : List Frame} {p : List Int → Bool}
set_option maxRecDepth 100000 in
set_option maxHeartbeats 8000000 in
theorem round41 (hFq : ∀ w w₁ : World, (∀ b, SF b → w₁.heap[b]? = w.heap[b]?) → Fq w → Fq w₁) (hn7 : nn ≤ 7)
    (Dr : List (Nat × List (List Int)) → (Nat → Prop) → (Nat → Prop) → Goroutine → World → Prop) (R : List (List Int)) (rest : List (List (List Int))) (L : List (Nat × List (List Int))) (a : Act) (k11 : List Item) (hj : L.length < nn) (h1n : 1 ≤ nn) (hR : ChainR nn R) (hR0 : R.head? = some ((L.length : Int) :: List.replicate (nn - 1) 0))
    (hcode : ∃ fn code, Try.prog.funcs[fF]? = some fn ∧ (fn.name == "runtime.NumGoroutine") = false ∧ fn.body = some code)
    (htest : ∀ (S' : Nat → Prop) (c k : Nat) (y : Gh) (w : World) (ad : Addr) (cc : Nat) (xs : List Int), (∀ b, SF b → S' b) → RdA w (some ad) xs → Sees y S' (some ad) → xs.length ≤ 1048577 → Bd S' y w → Fq w →
      CallsT Try.prog (TW Try.prog wgL.tWg Wg C nn LW RwI S' c k) fF (#[.slice (some ad) xs.length cc] ++ cap) y w fun v y' w' => v = .bool (p xs) ∧ Gw wgL.tWg Wg S' y w y' w')
    (hLv : Live41 Wg C bT bX nn L.length a) (hM : MI wgL.tWg Wg C bT bX fF nn cap SF Fq S y L w)
    (hnext : ∀ (a' : Act) (S' M' : Nat → Prop) (c : Nat) (w' : World), Live41 Wg C bT bX nn L.length a' → MI wgL.tWg Wg C bT bX fF nn cap SF Fq S' (M', []) (L ++ [(c, R.filter p)]) w' →
      MSp Try.prog wgL.tWg Wg C nn LW RwI Dr rest (L.length + 1) (L ++ [(c, R.filter p)]) S' M' (G ((base 41).atR a' (.inRegion o41.1 [] :: .inBlock 1 :: .code o41.2 :: k11)) cs) w') :
    TM Try.prog true wgL.tWg Wg S (StLane Try.prog wgL.tWg Wg C nn LW RwI S L.length (R.filter p) (fun c S' M' g' w' => MSp Try.prog wgL.tWg Wg C nn LW RwI Dr rest (L.length + 1) (L ++ [(c, R.filter p)]) S' M' g' w')) y
      (G ((base 41).atR a (.code c41.1 :: k11)) cs) w := by
  obtain ⟨tmps, ds⟩ := a
  obtain ⟨rfl, hsz, h2, h3, h5, h6, h16, h17⟩ := hLv
  have hT := clo_m (P := Try.prog) (main := true) (ty := wgL.tWg) (Wg := Wg) (S := S) (Stop := StLane Try.prog wgL.tWg Wg C nn LW RwI S L.length (R.filter p) (fun c S' M' g' w' => MSp Try.prog wgL.tWg Wg C nn LW RwI Dr rest (L.length + 1) (L ++ [(c, R.filter p)]) S' M' g' w'))
  obtain ⟨J, rfl⟩ : ∃ J : Nat → Value, tmps = #[J 0, J 1, J 2, J 3, J 4, J 5, J 6, J 7, J 8, J 9, J 10, J 11, J 12, J 13, J 14, J 15, J 16, J 17, J 18, J 19, J 20, J 21, J 22, J 23, J 24, J 25, J 26, J 27, J 28, J 29, J 30, J 31, J 32, J 33, J 34, J 35, J 36, J 37, J 38, J 39, J 40, J 41, J 42, J 43, J 44] := ⟨fun i => tmps.getD i undef, (lit tmps).trans (by rw [hsz]; rfl)⟩
  change J 2 = _ at h2
  change J 3 = _ at h3
  change J 5 = _ at h5
  change J 6 = _ at h6
  change J 16 = _ at h16
  change J 17 = _ at h17
  simp only [h2, h3, h5, h6, h16, h17]
  clear hsz h2 h3 h5 h6 h16
  have hlt := hid hj
  generalize hlen : L.length = j at *
  have hd : decide ((j : Int) < (nn : Int)) = true := by have := hlt.out; simp; omega
  have hk : (base 41).kind ≠ .early := base_kind _
  have hro : (base 41).roundOf = none := rfl
  simp only [c41, o41, Try.f41] at hnext ⊢
  have hF := hM
  clear hM
  repeat (first | refine t_seq hT ?_ | refine t_block hT ?_ | refine t_skip hT ?_ | refine t_inBlock hT ?_ | refine t_rend hT ?_ | refine t_exit hT rfl ?_)
  refine t_region hT [0] rfl ?_
  refine t_op hT rfl (by rfl) (by first | decide | assumption) (by first | rfl | (rw [hro]; rfl)) (fun _ hR K hK => ?_)
  replace hF := hF.rely hFq hR
  clear hR
  go_simp
  try (unfold stored; go_simp)
  try go_ints
  refine hK _ _ y (by rw [listed_nil (by simp [go_sem, *])]; exact hT.idle _ _) ?_
  clear hK K
  try walk_nrm
  repeat (first | refine t_seq hT ?_ | refine t_block hT ?_ | refine t_skip hT ?_ | refine t_inBlock hT ?_ | refine t_rend hT ?_ | refine t_exit hT rfl ?_)
  refine t_cond hT (t := _) rfl ?_
  simp only [if_true, if_false, reduceIte, Bool.false_eq_true, *]
  repeat (first | refine t_seq hT ?_ | refine t_block hT ?_ | refine t_skip hT ?_ | refine t_inBlock hT ?_ | refine t_rend hT ?_ | refine t_exit hT rfl ?_)
  refine t_region hT [0, 1, 2] rfl ?_
  refine t_op hT rfl (by rfl) (by first | decide | assumption) (by first | rfl | (rw [hro]; rfl)) (fun _ hR K hK => ?_)
  replace hF := hF.rely hFq hR
  clear hR
  go_simp
  try (unfold stored; go_simp)
  try go_ints
  refine hK _ _ y (by rw [listed_nil (by simp [go_sem, *])]; exact hT.idle _ _) ?_
  clear hK K
  try walk_nrm
  refine t_op hT rfl (by rfl) (by first | decide | assumption) (by first | rfl | (rw [hro]; rfl)) (fun w₁ hR K hK => ?_)
  replace hF := hF.rely hFq hR
  clear hR
  go_simp
  have hfr := (hF.fresh (Nat.le_refl _)).1
  have hmi := hF.alloc hFq (.cells #[.int .i64 0] 3)
  have hh : (w₁.alloc (.cells #[.int .i64 0] 3)).heap[w₁.heap.size]? = some (.cells #[.int .i64 0] 3) := Array.getElem?_push_size
  have hmo : (more y.1 w₁ (w₁.alloc (.cells #[.int .i64 0] 3)), y.2).1 w₁.heap.size := .inr ⟨Nat.le_refl _, by rw [alloc_size]; omega⟩
  refine hK _ _ _ (by rw [listed_nil (by simp [go_sem, *])]; exact dg_alloc _) ?_
  clear hK K
  try walk_nrm
  generalize w₁.heap.size = bF at *
  generalize w₁.alloc (.cells #[.int .i64 0] 3) = W1 at *
  generalize (more y.1 w₁ W1, y.2) = y1 at *
  replace hF := And.intro hmi hh
  clear hmi hh
  refine t_op hT rfl (by rfl) (by first | decide | assumption) (by first | rfl | (rw [hro]; rfl)) (fun _ hR K hK => ?_)
  replace hF := And.intro (hF.1.rely hFq hR) ((hR.keep bF (.inl hmo)).trans hF.2)
  clear hR
  have hcl := cell_of_heap (k := 0) (v := .int .i64 0) hF.2 rfl; have hfz := frozen_of_row _ _ 0 _ _ hF.2
  go_simp
  try (unfold stored; go_simp)
  try go_ints
  refine hK _ _ y1 (dg_store hmo (by co_evs (exact evm_write hmo))) ?_
  clear hK K
  try walk_nrm
  have hmi := hF.1.store hFq (k := 0) (.int .i64 (j : Int)) hfr
  have hh := set_one (v := .int .i64 (j : Int)) hF.2
  clear hcl hfz
  replace hF := And.intro hmi hh
  clear hmi hh
  generalize World.setCell _ _ _ = W2 at *
  repeat (first | refine t_seq hT ?_ | refine t_block hT ?_ | refine t_skip hT ?_ | refine t_inBlock hT ?_ | refine t_rend hT ?_ | refine t_exit hT rfl ?_)
  refine t_region hT [0, 1, 2] rfl ?_
  refine t_op hT rfl (by rfl) (by first | decide | assumption) (by first | rfl | (rw [hro]; rfl)) (fun w₁ hR K hK => ?_)
  replace hF := And.intro (hF.1.rely hFq hR) ((hR.keep bF (.inl hmo)).trans hF.2)
  clear hR
  have hmk := run_mkch w₁
  have hev := fun es => evs_mkch w₁ es
  go_simp
  have hfrc := hF.1.fresh (Nat.le_refl _)
  have hmi := hF.1.alloc hFq (.chan 0 #[] false 0 0 false)
  have hh : (w₁.alloc (.chan 0 #[] false 0 0 false)).heap[w₁.heap.size]? = some (.chan 0 #[] false 0 0 false) := Array.getElem?_push_size
  have hb : (w₁.alloc (.chan 0 #[] false 0 0 false)).heap[bF]? = _ := (alloc_get (hF.1.bd bF (.inl hmo))).trans hF.2
  have hmc : (more y1.1 w₁ (w₁.alloc (.chan 0 #[] false 0 0 false)), y1.2).1 w₁.heap.size := .inr ⟨Nat.le_refl _, by rw [alloc_size]; omega⟩
  have hcF : w₁.heap.size ≠ bF := fun e => hfrc.2 (.inl (by rw [e]; exact hmo))
  replace hmo : (more y1.1 w₁ (w₁.alloc (.chan 0 #[] false 0 0 false)), y1.2).1 bF := .inl hmo
  refine hK _ _ _ (by rw [listed_nil (by simp [go_sem, *])]; exact dg_alloc _) ?_
  clear hK K hmk hev
  try walk_nrm
  generalize w₁.heap.size = c at *
  generalize w₁.alloc (.chan 0 #[] false 0 0 false) = W3 at *
  generalize (more y1.1 w₁ W3, y1.2) = y2 at *
  replace hF := And.intro hmi (And.intro hb hh)
  clear hmi hh hb
  refine t_op hT rfl (by rfl) (by first | decide | assumption) (by first | rfl | (rw [hro]; rfl)) (fun w₁ hR K hK => ?_)
  replace hF := And.intro (hF.1.rely hFq hR) (And.intro ((hR.keep bF (.inl hmo)).trans hF.2.1) ((hR.keep c (.inl hmc)).trans hF.2.2))
  clear hR
  go_simp
  have hfrL := hF.1.fresh (Nat.le_refl _)
  have hmi := hF.1.alloc hFq (.cells #[.chan none] 62)
  have hh : (w₁.alloc (.cells #[.chan none] 62)).heap[w₁.heap.size]? = some (.cells #[.chan none] 62) := Array.getElem?_push_size
  have hb : (w₁.alloc (.cells #[.chan none] 62)).heap[bF]? = _ := (alloc_get (hF.1.bd bF (.inl hmo))).trans hF.2.1
  have hbc : (w₁.alloc (.cells #[.chan none] 62)).heap[c]? = _ := (alloc_get (hF.1.bd c (.inl hmc))).trans hF.2.2
  have hLF : w₁.heap.size ≠ bF := fun e => hfrL.2 (.inl (by rw [e]; exact hmo))
  have hLc : w₁.heap.size ≠ c := fun e => hfrL.2 (.inl (by rw [e]; exact hmc))
  replace hmo : (more y2.1 w₁ (w₁.alloc (.cells #[.chan none] 62)), y2.2).1 bF := .inl hmo
  replace hmc : (more y2.1 w₁ (w₁.alloc (.cells #[.chan none] 62)), y2.2).1 c := .inl hmc
  have hmL : (more y2.1 w₁ (w₁.alloc (.cells #[.chan none] 62)), y2.2).1 w₁.heap.size := .inr ⟨Nat.le_refl _, by rw [alloc_size]; omega⟩
  refine hK _ _ _ (by rw [listed_nil (by simp [go_sem, *])]; exact dg_alloc _) ?_
  clear hK K
  try walk_nrm
  generalize w₁.heap.size = bL at *
  generalize w₁.alloc (.cells #[.chan none] 62) = W4 at *
  generalize (more y2.1 w₁ W4, y2.2) = y3 at *
  replace hF := And.intro hmi (And.intro hb (And.intro hbc hh))
  clear hmi hh hb hbc
  refine t_op hT rfl (by rfl) (by first | decide | assumption) (by first | rfl | (rw [hro]; rfl)) (fun _ hR K hK => ?_)
  replace hF := And.intro (hF.1.rely hFq hR) (And.intro ((hR.keep bF (.inl hmo)).trans hF.2.1) (And.intro ((hR.keep c (.inl hmc)).trans hF.2.2.1) ((hR.keep bL (.inl hmL)).trans hF.2.2.2)))
  clear hR
  have hcl := cell_of_heap (k := 0) (v := .chan none) hF.2.2.2 rfl; have hfz := frozen_of_row _ _ 0 _ _ hF.2.2.2
  go_simp
  try (unfold stored; go_simp)
  try go_ints
  refine hK _ _ y3 (dg_store hmL (by co_evs (exact evm_write hmL))) ?_
  clear hK K
  try walk_nrm
  have hmi := hF.1.store hFq (k := 0) (.chan (some c)) hfrL.1
  have hh := set_one (v := .chan (some c)) hF.2.2.2
  have hb := (set_get (k := 0) (v := .chan (some c)) (Ne.symm hLF)).trans hF.2.1
  have hbc := (set_get (k := 0) (v := .chan (some c)) (Ne.symm hLc)).trans hF.2.2.1
  clear hcl hfz
  replace hF := And.intro hmi (And.intro hb (And.intro hbc hh))
  clear hmi hh hb hbc
  generalize World.setCell _ _ _ = W5 at *
  repeat (first | refine t_seq hT ?_ | refine t_block hT ?_ | refine t_skip hT ?_ | refine t_inBlock hT ?_ | refine t_rend hT ?_ | refine t_exit hT rfl ?_)
  refine t_region hT [0, 1, 2, 3, 4] rfl ?_
  refine t_op hT rfl (by rfl) (by first | decide | assumption) (by first | rfl | (rw [hro]; rfl)) (fun _ hR K hK => ?_)
  replace hF := And.intro (hF.1.rely hFq hR) (And.intro ((hR.keep bF (.inl hmo)).trans hF.2.1) (And.intro ((hR.keep c (.inl hmc)).trans hF.2.2.1) ((hR.keep bL (.inl hmL)).trans hF.2.2.2)))
  clear hR
  go_simp
  try (unfold stored; go_simp)
  try go_ints
  refine hK _ _ y3 (by rw [listed_nil (by simp [go_sem, *])]; exact hT.idle _ _) ?_
  clear hK K
  try walk_nrm
  refine t_op hT rfl (by rfl) (by first | decide | assumption) (by first | rfl | (rw [hro]; rfl)) (fun _ hR K hK => ?_)
  replace hF := And.intro (hF.1.rely hFq hR) (And.intro ((hR.keep bF (.inl hmo)).trans hF.2.1) (And.intro ((hR.keep c (.inl hmc)).trans hF.2.2.1) ((hR.keep bL (.inl hmL)).trans hF.2.2.2)))
  clear hR
  have hce := cell_of_heap (k := 0) (v := .int .i64 (j : Int)) hF.2.1 rfl
  go_simp
  try (unfold stored; go_simp)
  try go_ints
  refine hK _ _ y3 (dg_reads ?_) ?_
  · co_evs (exact evm_read (.inl hmo))
  clear hK K
  try walk_nrm
  clear hce
  refine t_op hT rfl (by rfl) (by first | decide | assumption) (by first | rfl | (rw [hro]; rfl)) (fun _ hR K hK => ?_)
  replace hF := And.intro (hF.1.rely hFq hR) (And.intro ((hR.keep bF (.inl hmo)).trans hF.2.1) (And.intro ((hR.keep c (.inl hmc)).trans hF.2.2.1) ((hR.keep bL (.inl hmL)).trans hF.2.2.2)))
  clear hR
  have hce := cell_of_heap (k := 0) (v := .chan (some c)) hF.2.2.2 rfl
  go_simp
  try (unfold stored; go_simp)
  try go_ints
  refine hK _ _ y3 (dg_reads ?_) ?_
  · co_evs (exact evm_read (.inl hmL))
  clear hK K
  try walk_nrm
  clear hce
  have hj0 : (0 : Int) ≤ (j : Int) := by omega
  have hj1 : (j : Int) < (nn : Int) := by have := hlt.out; omega
  refine t_op hT rfl (by rfl) (by first | decide | assumption) (by first | rfl | (rw [hro]; rfl)) (fun _ hR K hK => ?_)
  replace hF := And.intro (hF.1.rely hFq hR) (And.intro ((hR.keep bF (.inl hmo)).trans hF.2.1) (And.intro ((hR.keep c (.inl hmc)).trans hF.2.2.1) ((hR.keep bL (.inl hmL)).trans hF.2.2.2)))
  clear hR
  go_simp
  try (unfold stored; go_simp)
  try go_ints
  refine hK _ _ y3 (by rw [listed_nil (by simp [go_sem, *])]; exact hT.idle _ _) ?_
  clear hK K
  try walk_nrm
  refine tm_stop fun w₁ hR => ?_
  replace hF := And.intro (hF.1.rely hFq hR) (And.intro ((hR.keep bF (.inl hmo)).trans hF.2.1) (And.intro ((hR.keep c (.inl hmc)).trans hF.2.2.1) ((hR.keep bL (.inl hmL)).trans hF.2.2.2)))
  clear hR hT
  obtain ⟨cs0, hp, hps⟩ := hF.1.pay
  obtain ⟨v0, hv0⟩ : ∃ v, cs0[j]? = some v := ⟨_, Array.getElem?_eq_getElem (by have := hlt.out; omega)⟩
  have hcl := cell_of_heap hp hv0
  have hfz := frozen_of_row w₁ C j cs0 _ hp
  refine laneM_of (c := c) rfl (by rfl) hk (by rfl) hmc ⟨cs0, hp, hps⟩ (fun K hK => ?_) ?_ ?_
  · go_simp
    try (unfold stored; go_simp)
    exact hK
  · unfold listed
    rw [show (execOp _ _).events Try.prog w₁ #[] = #[⟨.cell ⟨C, j, none⟩, true, false⟩] by simp [go_sem, *]]
    exact seen_eq loud41 (by simp)
  clear hcl hfz hv0 v0 hps hp cs0
  have hCc : c ≠ C := hfrc.1.1
  have hmi := hF.1.lane hFq (by rw [hlen]; exact hlt.out) c (R.filter p)
  rw [hlen] at hmi
  have hb : (w₁.setCell ⟨C, j, none⟩ (.chan (some c))).heap[bF]? = _ := (set_get hfr.1).trans hF.2.1
  have hbc : (w₁.setCell ⟨C, j, none⟩ (.chan (some c))).heap[c]? = _ := (set_get hfrc.1.1).trans hF.2.2.1
  have hh : (w₁.setCell ⟨C, j, none⟩ (.chan (some c))).heap[bL]? = _ := (set_get hfrL.1.1).trans hF.2.2.2
  replace hF := And.intro hmi (And.intro hb (And.intro hbc hh))
  clear hmi hh hb hbc
  generalize World.setCell _ _ _ = W6 at *
  have hT := clo_m (P := Try.prog) (main := true) (ty := wgL.tWg) (Wg := Wg) (S := S) (Stop := StKd Try.prog wgL.tWg Wg C nn LW RwI S j (R.filter p) (fun c S' M' g' w' => MSp Try.prog wgL.tWg Wg C nn LW RwI Dr rest (j + 1) (L ++ [(c, R.filter p)]) S' M' g' w') c)
  change TM Try.prog true wgL.tWg Wg S (StKd Try.prog wgL.tWg Wg C nn LW RwI S j (R.filter p) (fun c S' M' g' w' => MSp Try.prog wgL.tWg Wg C nn LW RwI Dr rest (j + 1) (L ++ [(c, R.filter p)]) S' M' g' w') c) (y3.1, []) (G ((base 41).atR _ _) _) _
  have hF' : (MI wgL.tWg Wg C bT bX fF nn cap SF Fq S (y3.1, []) (L ++ [(c, R.filter p)]) W6 ∧ W6.heap[bF]? = some (Obj.cells #[.int .i64 (j : Int)] 3) ∧ W6.heap[c]? = some (.chan 0 #[] false 0 0 false) ∧ W6.heap[bL]? = some (Obj.cells #[.chan (some c)] 62)) := ⟨⟨hF.1.bd, hF.1.sC, hF.1.mC, hF.1.mW, hF.1.sW, hF.1.live, hF.1.pay, hF.1.has, hF.1.mT, hF.1.bT, hF.1.mX, hF.1.bX, hF.1.sf, hF.1.fq, hF.1.dj⟩, hF.2⟩
  replace hF := hF'
  clear hF'
  try walk_nrm
  repeat (first | refine t_seq hT ?_ | refine t_block hT ?_ | refine t_skip hT ?_ | refine t_inBlock hT ?_ | refine t_rend hT ?_ | refine t_exit hT rfl ?_)
  refine t_region hT [0] rfl ?_
  refine t_addPos (F := fun W => MI wgL.tWg Wg C bT bX fF nn cap SF Fq S (y3.1, []) (L ++ [(c, R.filter p)]) W ∧ W.heap[bF]? = some (Obj.cells #[.int .i64 (j : Int)] 3) ∧ W.heap[c]? = some (.chan 0 #[] false 0 0 false) ∧ W.heap[bL]? = some (Obj.cells #[.chan (some c)] 62))
    wgLib rfl (by rfl) hk (by rfl) rfl rfl (fun w w₁ hR hF => ⟨hF.1.rely hFq hR, (hR.keep bF (.inl hmo)).trans hF.2.1, (hR.keep c (.inl hmc)).trans hF.2.2.1, (hR.keep bL (.inl hmL)).trans hF.2.2.2⟩)
    (fun w v hF hl => ⟨hF.1.setWg hFq v hl, (set_get hfr.2.1).trans hF.2.1, (set_get hfrc.1.2.1).trans hF.2.2.1, (set_get hfrL.1.2.1).trans hF.2.2.2⟩) _ ⟨hF, hF.1.live⟩ ?_
  clear hF hT
  intro w hF hl
  have hT := clo_m (P := Try.prog) (main := true) (ty := wgL.tWg) (Wg := Wg) (S := S) (Stop := StGo Try.prog wgL.tWg Wg C nn LW RwI S j (R.filter p) (fun c S' M' g' w' => MSp Try.prog wgL.tWg Wg C nn LW RwI Dr rest (j + 1) (L ++ [(c, R.filter p)]) S' M' g' w') c)
  try walk_nrm
  clear hl
  repeat (first | refine t_seq hT ?_ | refine t_block hT ?_ | refine t_skip hT ?_ | refine t_inBlock hT ?_ | refine t_rend hT ?_ | refine t_exit hT rfl ?_)
  refine t_region hT [0, 1] rfl ?_
  refine t_op hT rfl (by rfl) (by first | decide | assumption) (by first | rfl | (rw [hro]; rfl)) (fun w₁ hR K hK => ?_)
  replace hF := And.intro (hF.1.rely hFq hR) (And.intro ((hR.keep bF (.inl hmo)).trans hF.2.1) (And.intro ((hR.keep c (.inl hmc)).trans hF.2.2.1) ((hR.keep bL (.inl hmL)).trans hF.2.2.2)))
  clear hR
  go_simp
  refine hK _ _ (y3.1, []) (by rw [listed_nil (by simp [go_sem, Instr.makeFunc])]; exact hT.idle _ _) ?_
  clear hK K
  try walk_nrm
  refine tm_stop fun w₁ hR => ?_
  replace hF := And.intro (hF.1.rely hFq hR) (And.intro ((hR.keep bF (.inl hmo)).trans hF.2.1) (And.intro ((hR.keep c (.inl hmc)).trans hF.2.2.1) ((hR.keep bL (.inl hmL)).trans hF.2.2.2)))
  clear hR
  have hM := hF.1
  have hcl : ∀ b t v, w₁.heap[b]? = some (.cells #[v] t) → w₁.cell? ⟨b, 0, none⟩ = some v := fun b t v h => cell_of_heap h rfl
  refine goM_of (d := call58 (.pointer (some ⟨Wg, 0, none⟩)) bL bT bF bX) (S' := fun b => SF b ∨ b = bT ∨ b = bX ∨ b = bF ∨ b = bL) hro rfl (by rfl) hk ?_ ?_ rfl ?_ hmc ?_ ?_ hF.2.2.1 (hM.has j c (R.filter p) (by rw [← hlen, List.getElem?_append_right (Nat.le_refl _)]; simp)) ?_ ?_
  · unfold execOp
    simp [resolve, Deferred.ofValue, Act.eval, call58]
  · unfold execOp
    simp [resolve, Deferred.ofValue, Act.eval]
  · rintro b (h | rfl | rfl | rfl | rfl)
    · exact .inr (hM.sf b h).1
    · exact hM.mT.1
    · exact hM.mX.1
    · exact .inl hmo
    · exact .inl hmL
  · rintro (h | h | h | h | h)
    · exact hfrc.1.2.2.2.2 h
    · exact hfrc.1.2.2.1 h
    · exact hfrc.1.2.2.2.1 h
    · exact hcF h
    · exact hLc h.symm
  · rintro (h | h | h | h | h)
    · exact (hM.sf C h).2 rfl
    · exact hM.mT.2 h.symm
    · exact hM.mX.2 h.symm
    · exact hfr.1 h.symm
    · exact hfrL.1.1 h.symm
  · -- the worker
    obtain ⟨S', hS'⟩ : ∃ S' : Nat → Prop, S' = fun b => SF b ∨ b = bT ∨ b = bX ∨ b = bF ∨ b = bL := ⟨_, rfl⟩
    have sT : S' bT := by rw [hS']; exact .inr (.inl rfl)
    have sX : S' bX := by rw [hS']; exact .inr (.inr (.inl rfl))
    have sF : S' bF := by rw [hS']; exact .inr (.inr (.inr (.inl rfl)))
    have sL : S' bL := by rw [hS']; exact .inr (.inr (.inr (.inr rfl)))
    have sf : ∀ b, SF b → S' b := fun b h => by rw [hS']; exact .inl h
    have bd : Bd S' (fun _ => False, R.filter p) w₁ := fun b hb => by
      rcases hb with hb | hb
      · exact hb.elim
      · rw [hS'] at hb
        rcases hb with h | rfl | rfl | rfl | rfl
        · exact hM.bd b (.inr (hM.sf b h).1)
        · exact hM.bd _ hM.mT.1
        · exact hM.bd _ hM.mX.1
        · exact hM.bd _ (.inl hmo)
        · exact hM.bd _ (.inl hmL)
    rw [← hS']
    clear hS'
    have A : Around wgL.tWg Wg C nn LW S' c (j + 1) (fun w => Fq w ∧ w.cell? ⟨bL, 0, none⟩ = some (.chan (some c)) ∧ w.cell? ⟨bX, 0, none⟩ = some (.func (.func fF) #[] cap) ∧ w.cell? ⟨bT, 0, none⟩ = some (.int .i64 nn) ∧ w.cell? ⟨bF, 0, none⟩ = some (.int .i64 (j : Int))) bL bX fF cap p := by
      refine ⟨fun w w₁ hk hf => ?_, fun _ h => h.2.1, sL, fun _ h => h.2.2.1, sX, hcode, fun y w ad cc xs hA hSe hn hB hf => htest S' c (j + 1) y w ad cc xs sf hA hSe hn hB hf.1⟩
      have e : ∀ b, S' b → ∀ v, w.cell? ⟨b, 0, none⟩ = some v → w₁.cell? ⟨b, 0, none⟩ = some v := fun b hb v h => by
        rw [← h]
        simp only [World.cell?, hk b hb]
      exact ⟨hFq w w₁ (fun b hb => hk b (sf b hb)) hf.1, e bL sL _ hf.2.1, e bX sX _ hf.2.2.1, e bT sT _ hf.2.2.2.1, e bF sF _ hf.2.2.2.2⟩
    exact worker_g (y := (fun _ => False, R.filter p)) A (.pointer (some ⟨Wg, 0, none⟩)) bT bF R h1n hn7 hlt.out hR hR0 bd ⟨hM.fq, hcl _ _ _ hF.2.2.2, hM.bX, hcl _ _ _ hM.bT, hcl _ _ _ hF.2.1⟩ rfl sT sF (fun _ h => h.2.2.2.1) (fun _ h => h.2.2.2.2)
      (fun T w hl hh => done_goes Wg C nn LW (j + 1) T w hl hh)
  · refine hnext _ _ _ c w₁ ?_ ?_
    · exact ⟨rfl, rfl, rfl, rfl, rfl, rfl, rfl, rfl⟩
    have up : ∀ b, (y3.1 b ∨ S b) → b ≠ c → ((y3.1 b ∧ ¬ (SF b ∨ b = bT ∨ b = bX ∨ b = bF ∨ b = bL) ∧ b ≠ c) ∨ (S b ∨ (SF b ∨ b = bT ∨ b = bX ∨ b = bF ∨ b = bL))) := fun b hb hc => by
      by_cases h : SF b ∨ b = bT ∨ b = bX ∨ b = bF ∨ b = bL
      · exact .inr (.inr h)
      · exact hb.imp (fun h1 => ⟨h1, h, hc⟩) .inl
    have dn : ∀ b, (SF b ∨ b = bT ∨ b = bX ∨ b = bF ∨ b = bL) → y3.1 b ∨ S b := by
      rintro b (h | rfl | rfl | rfl | rfl)
      · exact .inr (hM.sf b h).1
      · exact hM.mT.1
      · exact hM.mX.1
      · exact .inl hmo
      · exact .inl hmL
    refine ⟨fun b hb => hM.bd b ?_, .inl hM.sC, fun h => hM.mC h.1, fun h => hM.mW h.1, fun h => h.elim hM.sW fun h => (dn _ h).elim hM.mW hM.sW, hM.live, hM.pay, hM.has, ⟨.inr (.inr (.inr (.inl rfl))), hM.mT.2⟩, hM.bT, ⟨.inr (.inr (.inr (.inr (.inl rfl)))), hM.mX.2⟩, hM.bX, fun b hb => ⟨.inl (hM.sf b hb).1, (hM.sf b hb).2⟩, hM.fq, fun b hb hS => hS.elim (hM.dj b hb.1) hb.2.1⟩
    rcases hb with hb | hb | hb
    · exact .inl hb.1
    · exact .inr hb
    · exact dn b hb
end
end Go.Proofs.Ytkbfcaaihellfaa

/- Walks in company: mapsThat starts all workers. -/
namespace Go.Proofs.Ytkbfcaaihellfaa
open Go.Conc Go.ConcN Go.ConcN.Gen Go.RowKit Go.Conc.Lib Go.ConcR.Gen
open Go.ConcR (KK wgBlock WgAt stA smA rd wr mk Payload Aside2 DC0)
set_option linter.unusedVariables false
set_option linter.unusedSectionVars false

section
variable {Wg C LW bT bX fF nn : Nat} {cap : Array Value} {SF : Nat → Prop} {Fq : World → Prop} {cs : List Frame} {p : List Int → Bool}
/-- what is asked of the test -/
structure Tst (Wg C LW fF nn : Nat) (cap : Array Value) (SF : Nat → Prop) (Fq : World → Prop) (p : List Int → Bool) (Rj : Nat → List (List Int)) : Prop where
  fq : ∀ w w₁ : World, (∀ b, SF b → w₁.heap[b]? = w.heap[b]?) → Fq w → Fq w₁
  n7 : nn ≤ 7
  n1 : 1 ≤ nn
  chain : ∀ j, j < nn → ChainR nn (Rj j)
  head : ∀ j : Nat, j < nn → (Rj j).head? = some ((j : Int) :: List.replicate (nn - 1) 0)
  code : ∃ fn code, Try.prog.funcs[fF]? = some fn ∧ (fn.name == "runtime.NumGoroutine") = false ∧ fn.body = some code
  test : ∀ (S' : Nat → Prop) (c k : Nat) (y : Gh) (w : World) (ad : Addr) (cc : Nat) (xs : List Int), (∀ b, SF b → S' b) → RdA w (some ad) xs → Sees y S' (some ad) → xs.length ≤ 1048577 → Bd S' y w → Fq w →
      CallsT Try.prog (TW Try.prog wgL.tWg Wg C nn LW RwI S' c k) fF (#[.slice (some ad) xs.length cc] ++ cap) y w fun v y' w' => v = .bool (p xs) ∧ Gw wgL.tWg Wg S' y w y' w'
def rowsFrom (p : List Int → Bool) (Rj : Nat → List (List Int)) : Nat → Nat → List (List (List Int))
  | _, 0 => []
  | j, m + 1 => (Rj j).filter p :: rowsFrom p Rj (j + 1) m

set_option maxHeartbeats 2000000 in
theorem hub41 {Rj : Nat → List (List Int)} (H : Tst Wg C LW fF nn cap SF Fq p Rj) (Dr : List (Nat × List (List Int)) → (Nat → Prop) → (Nat → Prop) → Goroutine → World → Prop)
    (hdoor : ∀ (L : List (Nat × List (List Int))) (S M : Nat → Prop) (a : Act) (w : World), L.length = nn → L.map (·.2) = rowsFrom p Rj 0 nn → Live41 Wg C bT bX nn (nn - 1) a → MI wgL.tWg Wg C bT bX fF nn cap SF Fq S (M, []) L w → Dr L S M (G ((base 41).atR a (.inRegion o41.1 [] :: k41)) cs) w) :
    ∀ (m : Nat) (L : List (Nat × List (List Int))) (S M : Nat → Prop) (a : Act) (w : World), 1 ≤ L.length → L.length + m = nn → L.map (·.2) ++ rowsFrom p Rj L.length m = rowsFrom p Rj 0 nn → Live41 Wg C bT bX nn (L.length - 1) a → MI wgL.tWg Wg C bT bX fF nn cap SF Fq S (M, []) L w →
      MSp Try.prog wgL.tWg Wg C nn LW RwI Dr (rowsFrom p Rj L.length m) L.length L S M (G ((base 41).atR a (.inRegion o41.1 [] :: k41)) cs) w
  | 0, L, S, M, a, w, h1, hL, hr, hLv, hM => by
    have e : L.length = nn := by omega
    rw [e] at hLv
    exact hdoor L S M a w e (by simpa [rowsFrom] using hr) hLv hM
  | m + 1, L, S, M, a, w, h1, hL, hr, hLv, hM => by
    have IH := hub41 H Dr hdoor m
    have hj : L.length < nn := by omega
    obtain ⟨tmps, ds⟩ := a
    obtain ⟨rfl, hsz, h2, h3, h5, h6, h16, h17⟩ := hLv
    obtain ⟨J, rfl⟩ : ∃ J : Nat → Value, tmps = #[J 0, J 1, J 2, J 3, J 4, J 5, J 6, J 7, J 8, J 9, J 10, J 11, J 12, J 13, J 14, J 15, J 16, J 17, J 18, J 19, J 20, J 21, J 22, J 23, J 24, J 25, J 26, J 27, J 28, J 29, J 30, J 31, J 32, J 33, J 34, J 35, J 36, J 37, J 38, J 39, J 40, J 41, J 42, J 43, J 44] := ⟨fun i => tmps.getD i undef, (lit tmps).trans (by rw [hsz]; rfl)⟩
    change J 2 = _ at h2
    change J 3 = _ at h3
    change J 5 = _ at h5
    change J 6 = _ at h6
    change J 16 = _ at h16
    change J 17 = _ at h17
    simp only [h2, h3, h5, h6, h16, h17]
    clear hsz h2 h3 h5 h6 h16
    have hF := hM
    clear hM
    have hRd := fun a hLv w hM => round41 (cs := cs) (a := a) (w := w) (S := S) (y := (M, [])) H.fq H.n7 Dr (Rj L.length) (rowsFrom p Rj (L.length + 1) m) L [.inLoop c41.1, .inBlock 0, .code c41.2] hj H.n1 (H.chain _ hj) (H.head _ hj) H.code H.test hLv hM (fun a' S' M' c w' hLv' hM' => by
      have eL : (L ++ [(c, (Rj L.length).filter p)]).length = L.length + 1 := by simp
      have := IH (L ++ [(c, (Rj L.length).filter p)]) S' M' a' w' (by rw [eL]; omega) (by rw [eL]; omega) (by rw [eL, ← hr]; simp [rowsFrom]) (by rw [eL]; exact hLv') hM'
      rw [eL] at this
      exact this)
    have hT := clo_m (P := Try.prog) (main := true) (ty := wgL.tWg) (Wg := Wg) (S := S) (Stop := StLane Try.prog wgL.tWg Wg C nn LW RwI S L.length ((Rj L.length).filter p) (fun c S' M' g' w' => MSp Try.prog wgL.tWg Wg C nn LW RwI Dr (rowsFrom p Rj (L.length + 1) m) (L.length + 1) (L ++ [(c, (Rj L.length).filter p)]) S' M' g' w'))
    change TM Try.prog true wgL.tWg Wg S (StLane Try.prog wgL.tWg Wg C nn LW RwI S L.length ((Rj L.length).filter p) (fun c S' M' g' w' => MSp Try.prog wgL.tWg Wg C nn LW RwI Dr (rowsFrom p Rj (L.length + 1) m) (L.length + 1) (L ++ [(c, (Rj L.length).filter p)]) S' M' g' w')) (M, []) _ _
    generalize TM Try.prog true wgL.tWg Wg S (StLane Try.prog wgL.tWg Wg C nn LW RwI S L.length ((Rj L.length).filter p) (fun c S' M' g' w' => MSp Try.prog wgL.tWg Wg C nn LW RwI Dr (rowsFrom p Rj (L.length + 1) m) (L.length + 1) (L ++ [(c, (Rj L.length).filter p)]) S' M' g' w')) = T at hT hRd ⊢
    unfold k41
    generalize c41.1 = LB at hRd ⊢
    generalize c41.2 = AF at hRd ⊢
    have hk : (base 41).kind ≠ .early := base_kind _
    have hro : (base 41).roundOf = none := rfl
    simp only [o41, c41, Try.f41]
    have hsum : ((L.length - 1 : Nat) : Int) + 1 = (L.length : Int) := by omega
    generalize ((L.length - 1 : Nat) : Int) = jj at *
    generalize hlen : (L.length : Int) = j at *
    have hb1 : -9223372036854775808 ≤ j := by omega
    have hb2 : j ≤ 9223372036854775807 := by have := H.n7; omega
    repeat (first | refine t_seq hT ?_ | refine t_block hT ?_ | refine t_skip hT ?_ | refine t_inBlock hT ?_ | refine t_rend hT ?_ | refine t_exit hT rfl ?_)
    refine t_region hT [0, 1] rfl ?_
    refine t_op hT rfl (by rfl) (by first | decide | assumption) (by first | rfl | (rw [hro]; rfl)) (fun _ hR K hK => ?_)
    replace hF := hF.rely H.fq hR
    clear hR
    go_simp
    try (unfold stored; go_simp)
    try go_ints
    refine hK _ _ (M, []) (by rw [listed_nil (by simp [go_sem, *])]; exact hT.idle _ _) ?_
    clear hK K
    try walk_nrm
    refine t_op hT rfl (by rfl) (by first | decide | assumption) (by first | rfl | (rw [hro]; rfl)) (fun _ hR K hK => ?_)
    replace hF := hF.rely H.fq hR
    clear hR
    go_simp
    try (unfold stored; go_simp)
    try go_ints
    refine hK _ _ (M, []) (by rw [listed_nil (by simp [go_sem, *])]; exact hT.idle _ _) ?_
    clear hK K
    try walk_nrm
    repeat (first | refine t_seq hT ?_ | refine t_block hT ?_ | refine t_skip hT ?_ | refine t_inBlock hT ?_ | refine t_rend hT ?_ | refine t_exit hT rfl ?_)
    refine t_inLoop hT ?_
    refine hRd _ ?_ _ hF
    exact ⟨rfl, rfl, rfl, rfl, rfl, rfl, rfl, congrArg (Value.int .i64) hlen.symm⟩
end
end Go.Proofs.Ytkbfcaaihellfaa

/- Walks in company: what mapsThat knows while it receives. -/
namespace Go.Proofs.Ytkbfcaaihellfaa
open Go.Conc Go.ConcN Go.RowKit
open Go.ConcR (KK wgBlock WgAt stA smA rd wr mk Payload Aside2 DC0)
set_option linter.unusedVariables false
set_option linter.unusedSectionVars false

noncomputable def p41 : Code × Code := match c41.2 with
  | .seq _ (.seq (.seq _ (.block _ (.loop a))) b) => (a, b)
  | _ => (.skip, .skip)
noncomputable def q41 : Code × Code := match p41.1 with
  | .seq _ (.seq _ (.seq (.block _ (.seq _ (.seq _ (.block _ (.loop a))))) r)) => (a, r)
  | _ => (.skip, .skip)
noncomputable def r41 : Array Oper × Code := match q41.1 with
  | .seq (.region _ ops _) r => (ops, r)
  | _ => (#[], .skip)
/-- what stands behind the receives of a lane -/
noncomputable def i41 : List Item := [.inLoop q41.1, .inBlock 4, .inBlock 3, .code q41.2, .inLoop p41.1, .inBlock 2, .code p41.2]

theorem ownsRow_heap {w w1 : World} {e : TypeId} {v : Value} {n : Nat} {xs : List Value} (h : w.ownsRow 0 e 1 v n xs) (hk : ∀ N, v.ownBlock = some N → w1.heap[N]? = w.heap[N]?) : w1.ownsRow 0 e 1 v n xs := by
  obtain ⟨h1, h2⟩ := h
  refine ⟨h1, h2.imp id ?_⟩
  rintro ⟨g, cap, cur, rfl, h3, h4, h5⟩
  exact ⟨g, cap, cur, rfl, h3, (hk g rfl).trans h4, h5⟩
/-- the rows that have come, in order -/
def AllR (M : Nat → Prop) (v : Value) (R : List (List Int)) (w : World) : Prop :=
  ∃ xs : List Value, w.ownsRow 0 22 1 v R.length xs ∧ (∀ N, v.ownBlock = some N → M N) ∧ ∀ (i : Nat) (x : List Int), R[i]? = some x → ∃ r o u, xs[i]? = some u ∧ M r ∧ w.heap[r]? = some o ∧ RwI x r o u ∧ v.ownBlock ≠ some r
theorem AllR.nil {M : Nat → Prop} {w : World} : AllR M (.slice none 0 0) [] w := ⟨[], ⟨rfl, .inl ⟨rfl, rfl⟩⟩, ⟨fun N h => (by simp [Value.ownBlock] at h), fun i x h => (by simp at h)⟩⟩
theorem AllR.heap {M M' : Nat → Prop} {v : Value} {R : List (List Int)} {w w1 : World} (h : AllR M v R w) (hk : ∀ b, M b → w1.heap[b]? = w.heap[b]?) (hm : ∀ b, M b → M' b) : AllR M' v R w1 := by
  obtain ⟨xs, h1, h2, h3⟩ := h
  refine ⟨xs, ownsRow_heap h1 fun N e => hk N (h2 N e), fun N e => hm N (h2 N e), fun i x hi => ?_⟩
  obtain ⟨r, o, u, a1, a2, a3, a4, a5⟩ := h3 i x hi
  exact ⟨r, o, u, a1, hm r a2, (hk r a2).trans a3, a4, a5⟩
theorem AllR.snoc {M M' : Nat → Prop} {v v' u : Value} {R : List (List Int)} {w w1 : World} {xs : List Value} {x : List Int} {r : Nat} {o : Obj}
    (h2 : ∀ N, v.ownBlock = some N → M N) (h3 : ∀ (i : Nat) (x : List Int), R[i]? = some x → ∃ r o u, xs[i]? = some u ∧ M r ∧ w.heap[r]? = some o ∧ RwI x r o u ∧ v.ownBlock ≠ some r) (hx : xs.length = R.length)
    (hown : w1.ownsRow 0 22 1 v' (R.length + 1) (xs ++ [u])) (hb : ∀ r, v'.ownBlock = some r → M' r ∧ (v.ownBlock = some r ∨ w.heap.size ≤ r)) (hg : w.grownBy w1 v.ownBlock) (hm : ∀ b, M b → M' b)
    (hr : M r) (ho : w.heap[r]? = some o) (hu : RwI x r o u) (hne : v.ownBlock ≠ some r) : AllR M' v' (R ++ [x]) w1 := by
  have key : ∀ {r : Nat} {o : Obj}, w.heap[r]? = some o → v.ownBlock ≠ some r → w1.heap[r]? = some o ∧ v'.ownBlock ≠ some r := fun {r o} ho hne => by
    have hlt : r < w.heap.size := (Array.getElem?_eq_some_iff.1 ho).1
    refine ⟨(hg.block r hlt fun e => hne e.symm).trans ho, fun e => ?_⟩
    rcases (hb r e).2 with e | e
    · exact hne e
    · omega
  refine ⟨xs ++ [u], by simpa using hown, fun N e => (hb N e).1, fun i x' hi => ?_⟩
  by_cases hlt : i < R.length
  · rw [List.getElem?_append_left hlt] at hi
    obtain ⟨r', o', u', a1, a2, a3, a4, a5⟩ := h3 i x' hi
    exact ⟨r', o', u', by rw [List.getElem?_append_left (by omega)]; exact a1, hm r' a2, (key a3 a5).1, a4, (key a3 a5).2⟩
  · have e : i = R.length := by
      have := (List.getElem?_eq_some_iff.1 hi).1
      simp at this
      omega
    subst e
    rw [List.getElem?_append_right (Nat.le_refl _)] at hi
    simp at hi
    subst hi
    exact ⟨r, o, u, by rw [List.getElem?_append_right (by omega)]; simp [hx], hm r hr, (key ho hne).1, hu, (key ho hne).2⟩

/-- what mapsThat knows while it receives -/
structure MR (ty : TypeId) (Wg C : Nat) (Fq : World → Prop) (S M : Nat → Prop) (L : List (Nat × List (List Int))) (w : World) : Prop where
  bd : Bd S (M, []) w
  sC : S C
  mC : ¬ M C
  live : WgLive ty Wg w
  has : ∀ i c ls, L[i]? = some (c, ls) → Has C i (.chan (some c)) w
  dj : ∀ b, M b → ¬ S b
  fks : ∀ w w₁ : World, (∀ b, S b → w₁.heap[b]? = w.heap[b]?) → Fq w → Fq w₁
  fk : Fq w
section
variable {ty : TypeId} {Wg C : Nat} {Fq : World → Prop} {S M : Nat → Prop} {L : List (Nat × List (List Int))} {w w1 : World}
theorem MR.rely (h : MR ty Wg C Fq S M L w) (r : RG ty Wg S (M, []) w w1) : MR ty Wg C Fq S M L w1 :=
  have eC := r.keep C (.inr h.sC)
  ⟨fun b hb => Nat.lt_of_lt_of_le (h.bd b hb) r.size, h.sC, h.mC, r.live h.live, fun i c ls hi => by have := h.has i c ls hi; unfold Has at *; rw [← this]; simp [World.cell?, eC], h.dj, h.fks, h.fks w w1 (fun b hb => r.keep b (.inr hb)) h.fk⟩
theorem MR.more (h : MR ty Wg C Fq S M L w) {M' : Nat → Prop} (hM : ∀ b, M' b → M b ∨ w.heap.size ≤ b) (hb : Bd S (M', []) w1) (hk : ∀ b, S b → w1.heap[b]? = w.heap[b]?) (hl : WgLive ty Wg w → WgLive ty Wg w1) : MR ty Wg C Fq S M' L w1 :=
  have eC := hk C h.sC
  ⟨hb, h.sC, fun e => (hM C e).elim h.mC fun e => by have := h.bd C (.inr h.sC); omega, hl h.live, fun i c ls hi => by have := h.has i c ls hi; unfold Has at *; rw [← this]; simp [World.cell?, eC], fun b hb hS => (hM b hb).elim (fun hb => h.dj b hb hS) fun e => (by have := h.bd b (.inr hS); omega), h.fks, h.fks w w1 hk h.fk⟩
/-- a row has come -/
theorem MR.row (h : MR ty Wg C Fq S M L w) {r : Nat} (hr : ¬ (M r ∨ S r)) {o : Obj} (ho : w1.heap[r]? = some o) (hk : ∀ b, M b ∨ S b → w1.heap[b]? = w.heap[b]?) (hsz : w.heap.size ≤ w1.heap.size) (hl : WgLive ty Wg w → WgLive ty Wg w1) : MR ty Wg C Fq S (fun b => M b ∨ b = r) L w1 :=
  have eC := hk C (.inr h.sC)
  ⟨fun b hb => by
    rcases hb with (hb | hb) | hb
    · exact Nat.lt_of_lt_of_le (h.bd b (.inl hb)) hsz
    · rw [show b = r from hb]; exact (Array.getElem?_eq_some_iff.1 ho).1
    · exact Nat.lt_of_lt_of_le (h.bd b (.inr hb)) hsz, h.sC, fun e => e.elim h.mC fun e => hr (.inr (by rw [← e]; exact h.sC)), hl h.live, fun i c ls hi => by have := h.has i c ls hi; unfold Has at *; rw [← this]; simp [World.cell?, eC], fun b hb hS => hb.elim (fun hb => h.dj b hb hS) fun e => hr (.inr (by rw [← e]; exact hS)), h.fks, h.fks w w1 (fun b hb => hk b (.inr hb)) h.fk⟩
end
end Go.Proofs.Ytkbfcaaihellfaa
