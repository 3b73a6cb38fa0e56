/- Steps on the way to the law; each part says what it proves. -/
import Derived.Test.YtkbfcaaihellfaaU14
import Derived.Lib.SliceRun

set_option linter.unusedSimpArgs false

/- Walks in company: BehindOf. -/
namespace Go.Proofs.Ytkbfcaaihellfaa
open Go.Conc Go.ConcN Go.RowKit
set_option linter.unusedVariables false
set_option linter.unusedSectionVars false

theorem evs_mk (n : Nat) (hn : n ≤ 1000000000000) (w : World) (es : Array Event) : (Instr.makeSlice 22 (.int .i64 (n : Int)) (.int .i64 (n : Int))).events Try.prog w es = es := by
  obtain ⟨i0, hi, hz0, hz1, hz2⟩ := info_parts info_int
  exact events_make (P := Try.prog) w 22 3 i0 (.int .i64 0) Try.underlying22 hi hz0 .i64 .i64 n n (by omega) (by omega) (by rw [hz2]; omega) (by omega) (by rw [hz2]; omega) es
theorem run_mk' (n : Nat) (hn : n ≤ 1000000000000) (w : World) :
    (Instr.makeSlice 22 (.int .i64 (n : Int)) (.int .i64 (n : Int))).run Try.prog w = .ok (.slice (some ⟨w.heap.size, 0, none⟩) n n) (w.alloc (.cells (madeCells #[.int .i64 0] n) 3)) := by
  obtain ⟨i0, hi, hz0, hz1, hz2⟩ := info_parts info_int
  have hr := run_make (P := Try.prog) w 22 3 i0 (.int .i64 0) Try.underlying22 hi hz0 .i64 .i64 n n (by omega) (by omega) (by rw [hz2]; omega) (by omega)
  simp only [Int.toNat_natCast] at hr
  rw [hr, hz1, Nat.mul_one]
  rfl
theorem own_mk' (w : World) (n : Nat) (hn : n ≤ 1000000000000) : Own 0 (w.alloc (.cells (madeCells #[.int .i64 0] n) 3)) (.slice (some ⟨w.heap.size, 0, none⟩) n n) (List.replicate n 0) := by
  have := World.ownsRow_lit (base := 0) (e := 3) (size := 1) w (madeCells #[.int .i64 0] n) n (Nat.zero_le _) (by unfold maxLen; omega) (by simp [size_madeCells])
  rw [toList_madeCells_one] at this
  unfold Own
  simpa using this
theorem Own.heap {B N n c : Nat} {w w₁ : World} {xs : List Int} (h : Own B w (.slice (some ⟨N, 0, none⟩) n c) xs) (e : w₁.heap[N]? = w.heap[N]?) : Own B w₁ (.slice (some ⟨N, 0, none⟩) n c) xs := by
  obtain ⟨h1, h2⟩ := h
  refine ⟨h1, ?_⟩
  rcases h2 with ⟨h2, _⟩ | ⟨g, cap, cur, h2, h3, h4, h5⟩
  · cases h2
  · have eg : g = N := by cases h2; rfl
    subst eg
    exact .inr ⟨g, cap, cur, h2, h3, e.trans h4, h5⟩
theorem alloc_get {w : World} {o : Obj} {b : Nat} (h : b < w.heap.size) : (w.alloc o).heap[b]? = w.heap[b]? := by
  show (w.heap.push o)[b]? = _
  rw [Array.getElem?_push_lt h, ← Array.getElem?_eq_getElem]
theorem alloc_size {w : World} {o : Obj} : (w.alloc o).heap.size = w.heap.size + 1 := Array.size_push _

section
variable [Go.ConcR.Payload] {main : Bool} {ty : TypeId} {Wg : Nat} {S : Nat → Prop} {T : Gh → Goroutine → World → Prop} {y y1 y2 : Gh} {w w1 w2 : World}
/-- all that it may touch is there -/
def Bd (S : Nat → Prop) (y : Gh) (w : World) : Prop := ∀ b, y.1 b ∨ S b → b < w.heap.size
/-- it may have made blocks of its own; what it knew stands -/
structure Gw (ty : TypeId) (Wg : Nat) (S : Nat → Prop) (y : Gh) (w : World) (y' : Gh) (w' : World) : Prop where
  rg : RG ty Wg S y w w'
  sub : ∀ b, y.1 b → y'.1 b
  rows : y'.2 = y.2
  bd : Bd S y' w'
  new : ∀ b, y'.1 b → y.1 b ∨ w.heap.size ≤ b
theorem Bd.rely (h : Bd S y w) (r : RG ty Wg S y w w1) : Bd S y w1 := fun b hb => Nat.lt_of_lt_of_le (h b hb) r.size
theorem Gw.refl (h : Bd S y w) : Gw ty Wg S y w y w := ⟨RM.refl w, fun _ h => h, rfl, h, fun _ h => .inl h⟩
theorem RG.sub (h : ∀ b, y.1 b → y1.1 b) (r : RG ty Wg S y1 w w1) : RG ty Wg S y w w1 := r.mono fun b hb => hb.imp (h b) id
theorem Gw.rely (g : Gw ty Wg S y w y1 w1) (r : RG ty Wg S y1 w1 w2) : Gw ty Wg S y w y1 w2 := ⟨g.rg.trans (RG.sub g.sub r), g.sub, g.rows, g.bd.rely r, g.new⟩
theorem Gw.of_rg (h : Bd S y w) (r : RG ty Wg S y w w1) : Gw ty Wg S y w y w1 := (Gw.refl h).rely r
theorem Gw.trans (g : Gw ty Wg S y w y1 w1) (k : Gw ty Wg S y1 w1 y2 w2) : Gw ty Wg S y w y2 w2 :=
  ⟨g.rg.trans (RG.sub g.sub k.rg), fun b h => k.sub b (g.sub b h), k.rows.trans g.rows, k.bd, fun b h => (k.new b h).elim (g.new b) fun h => .inr (Nat.le_trans g.rg.size h)⟩
theorem live_heap (h : w1.heap[Wg]? = w.heap[Wg]?) : WgLive ty Wg w → WgLive ty Wg w1 := fun ⟨st, sm, h1⟩ => ⟨st, sm, h1.of_block h⟩
theorem live_lt (h : WgLive ty Wg w) : Wg < w.heap.size := by
  obtain ⟨st, sm, h⟩ := h
  exact (Array.getElem?_eq_some_iff.1 h).1
theorem rg_alloc (h : Bd S y w) (o : Obj) : RG ty Wg S y w (w.alloc o) := ⟨fun b hb => alloc_get (h b hb), by rw [alloc_size]; omega, fun h => live_heap (alloc_get (live_lt h)) h⟩
theorem dg_alloc (o : Obj) : DG main Wg S y w (w.alloc o) #[] (more y.1 w (w.alloc o), y.2) := ⟨⟨fun b _ hb => alloc_get hb, by rw [alloc_size]; omega, rfl, rfl, rfl, by simp⟩, rfl⟩
theorem gw_alloc (h : Bd S y w) (o : Obj) : Gw ty Wg S y w (more y.1 w (w.alloc o), y.2) (w.alloc o) :=
  ⟨rg_alloc h o, fun b h => .inl h, rfl, fun b hb => by
    rw [alloc_size]
    rcases hb with (hb | hb) | hb
    · have := h b (.inl hb); omega
    · rw [alloc_size] at hb; omega
    · have := h b (.inr hb); omega, fun b hb => hb.imp id (·.1)⟩
theorem set_get {w : World} {N k b : Nat} {v : Value} (h : b ≠ N) : (w.setCell ⟨N, k, none⟩ v).heap[b]? = w.heap[b]? := by
  simp only [World.setCell]; rw [Array.getElem?_modify, if_neg (fun e => h e.symm)]
theorem set_size {w : World} {a : Addr} {v : Value} : (w.setCell a v).heap.size = w.heap.size := by simp [World.setCell]
theorem dg_store {N k : Nat} {v : Value} {es : Array Event} (h : y.1 N) (he : ∀ e ∈ es, EvM y.1 S e) : DG main Wg S y w (w.setCell ⟨N, k, none⟩ v) es y :=
  ⟨⟨fun b hb _ => set_get fun e => hb (by rw [e]; exact h), by rw [set_size]; exact Nat.le_refl _, rfl, rfl, rfl, fun e h => .inl (he e h)⟩, by rw [more_same set_size]⟩

/-- it holds a row of its own that it has made since w -/
structure Own1 (ty : TypeId) (Wg : Nat) (S : Nat → Prop) (y y1 : Gh) (N n c : Nat) (L : List Int) (w w1 : World) : Prop where
  gw : Gw ty Wg S y w y1 w1
  own : Own 0 w1 (.slice (some ⟨N, 0, none⟩) n c) L
  mem : y1.1 N
  new : w.heap.size ≤ N
theorem Own1.rely {N n c : Nat} {L : List Int} (h : Own1 ty Wg S y y1 N n c L w w1) (r : RG ty Wg S y1 w1 w2) : Own1 ty Wg S y y1 N n c L w w2 := ⟨h.gw.rely r, h.own.heap (r.keep N (.inl h.mem)), h.mem, h.new⟩
theorem Own1.store {N n c : Nat} {L : List Int} (hb : Bd S y w) (h : Own1 ty Wg S y y1 N n c L w w1) (k : Nat) (x : Int) : Own1 ty Wg S y y1 N n c (L.set k x) w (w1.setCell ⟨N, k, none⟩ (.int .i64 x)) := by
  have ne : ∀ b, y.1 b ∨ S b → b ≠ N := fun b hb' e => by have := hb b hb'; have := h.new; omega
  refine ⟨⟨⟨fun b hb' => (set_get (ne b hb')).trans (h.gw.rg.keep b hb'), by rw [set_size]; exact h.gw.rg.size, fun hl => live_heap (set_get (by have := live_lt hl; have := h.new; omega)) (h.gw.rg.live hl)⟩, h.gw.sub, h.gw.rows, fun b hb' => by rw [set_size]; exact h.gw.bd b hb', h.gw.new⟩, h.own.store k x, h.mem, h.new⟩

/-- a row has been handed back -/
def RetT (ty : TypeId) (Wg : Nat) (S : Nat → Prop) (L : List Int) (y : Gh) (w : World) (v : Value) (y' : Gh) (w' : World) : Prop := ∃ A c, v = .slice A L.length c ∧ RdA w' A L ∧ Sees y' S A ∧ Gw ty Wg S y w y' w' ∧ (L = [] → A = none ∧ c = 0)
theorem retT_nil {L : List Int} (hL : L = []) (h : Gw ty Wg S y w y1 w1) : RetT ty Wg S L y w (.slice none 0 0) y1 w1 := by
  subst hL
  exact ⟨none, 0, rfl, RdA.nil, fun _ e => (by cases e), h, fun _ => ⟨rfl, rfl⟩⟩
set_option maxHeartbeats 4000000 in
theorem behindOf_g (hT : Clo Try.prog main (RG ty Wg S) (DG main Wg S) T) (A B : Option Addr) (c d : Nat) (f g : List Int) (hA : RdA w A f) (hS : Sees y S A) (hA2 : RdA w B g) (hS2 : Sees y S B) (hn : f.length ≤ 1048577) (hm : g.length ≤ 1048577) (hB : Bd S y w) :
    CallsT Try.prog T 25 #[.slice A f.length c, .slice B g.length d] y w (RetT ty Wg S (behindL f g) y w) := by
  refine callsT_of Try.func25 rfl fun fr cs hc => ?_
  simp only [Try.ntmps25, List.size_toArray, List.length_cons, List.length_nil, Nat.reduceAdd, Nat.reduceSub, Array.replicate_succ, Array.replicate_zero, List.push_toArray, List.append_toArray, List.nil_append, List.cons_append]
  have hF : RG ty Wg S y w w := RM.refl w
  repeat (first | refine t_seq hT ?_ | refine t_block hT ?_ | refine t_skip hT ?_ | refine t_inBlock hT ?_ | refine t_rend hT ?_ | refine t_exit hT rfl ?_)
  refine t_region hT [0] rfl ?_
  refine t_op hT rfl (by rfl) (by first | decide | assumption) (by first | rfl | (rw [hro]; rfl)) (fun _ hR K hK => ?_)
  replace hF := hF.trans hR
  clear hR
  go_simp
  try (unfold stored; go_simp)
  try go_ints
  refine hK _ _ y (by rw [listed_nil (by simp [go_sem, *])]; exact hT.idle _ _) ?_
  clear hK K
  try walk_nrm
  repeat (first | refine t_seq hT ?_ | refine t_block hT ?_ | refine t_skip hT ?_ | refine t_inBlock hT ?_ | refine t_rend hT ?_ | refine t_exit hT rfl ?_)
  refine t_region hT [0, 1, 2, 3, 4, 5, 6, 7, 8, 9, 10, 11, 12, 13, 14] rfl ?_
  refine t_op hT rfl (by rfl) (by first | decide | assumption) (by first | rfl | (rw [hro]; rfl)) (fun _ hR K hK => ?_)
  replace hF := hF.trans hR
  clear hR
  go_simp
  try (unfold stored; go_simp)
  try go_ints
  refine hK _ _ y (by rw [listed_nil (by simp [go_sem, *])]; exact hT.idle _ _) ?_
  clear hK K
  try walk_nrm
  refine t_call hT rfl (by rfl) (by first | decide | assumption) (by first | rfl | (rw [hro]; rfl)) rfl Try.func40 (by rfl) rfl (by walk_nrm; exact mapOk_g hT _ _ _ (rdA_rely hS hF hA) hS hn) ?_
  rintro _ _ _ ⟨rfl, rfl, hG⟩
  replace hF := hF.trans hG
  clear hG
  try walk_nrm
  by_cases hf : mapOkB f = true
  · have hHf := hid hf
    rw [hf]
    refine t_op hT rfl (by rfl) (by first | decide | assumption) (by first | rfl | (rw [hro]; rfl)) (fun _ hR K hK => ?_)
    replace hF := hF.trans hR
    clear hR
    go_simp
    try (unfold stored; go_simp)
    try go_ints
    refine hK _ _ y (by rw [listed_nil (by simp [go_sem, *])]; exact hT.idle _ _) ?_
    clear hK K
    try walk_nrm
    refine t_op hT rfl (by rfl) (by first | decide | assumption) (by first | rfl | (rw [hro]; rfl)) (fun _ hR K hK => ?_)
    replace hF := hF.trans hR
    clear hR
    go_simp
    try (unfold stored; go_simp)
    try go_ints
    refine hK _ _ y (by rw [listed_nil (by simp [go_sem, *])]; exact hT.idle _ _) ?_
    clear hK K
    try walk_nrm
    refine t_op hT rfl (by rfl) (by first | decide | assumption) (by first | rfl | (rw [hro]; rfl)) (fun _ hR K hK => ?_)
    replace hF := hF.trans hR
    clear hR
    go_simp
    try (unfold stored; go_simp)
    try go_ints
    refine hK _ _ y (by rw [listed_nil (by simp [go_sem, *])]; exact hT.idle _ _) ?_
    clear hK K
    try walk_nrm
    refine t_call hT rfl (by rfl) (by first | decide | assumption) (by first | rfl | (rw [hro]; rfl)) rfl Try.func40 (by rfl) rfl (by walk_nrm; exact mapOk_g hT _ _ _ (rdA_rely hS2 hF hA2) hS2 hm) ?_
    rintro _ _ _ ⟨rfl, rfl, hG⟩
    replace hF := hF.trans hG
    clear hG
    try walk_nrm
    by_cases hg : mapOkB g = true
    · have hHg := hid hg
      rw [hg]
      clear hf hg
      by_cases hl : f.length = g.length
      · have hl' : ((f.length : Int) != (g.length : Int)) = false := by simp [hl]
        have HL := hid hl
        clear hl
        have GF := hid (good_of hHf.out)
        have GG := hid (good_of hHg.out)
        have HE := hid (behindL_good GF.out GG.out HL.out)
        have h7 := GF.out.1.2
        have h1 := GF.out.1.1
        refine t_op hT rfl (by rfl) (by first | decide | assumption) (by first | rfl | (rw [hro]; rfl)) (fun _ hR K hK => ?_)
        replace hF := hF.trans hR
        clear hR
        go_simp
        try (unfold stored; go_simp)
        try go_ints
        refine hK _ _ y (by rw [listed_nil (by simp [go_sem, *])]; exact hT.idle _ _) ?_
        clear hK K
        try walk_nrm
        refine t_op hT rfl (by rfl) (by first | decide | assumption) (by first | rfl | (rw [hro]; rfl)) (fun _ hR K hK => ?_)
        replace hF := hF.trans hR
        clear hR
        go_simp
        try (unfold stored; go_simp)
        try go_ints
        refine hK _ _ y (by rw [listed_nil (by simp [go_sem, *])]; exact hT.idle _ _) ?_
        clear hK K
        try walk_nrm
        refine t_op hT rfl (by rfl) (by first | decide | assumption) (by first | rfl | (rw [hro]; rfl)) (fun _ hR K hK => ?_)
        replace hF := hF.trans hR
        clear hR
        go_simp
        try (unfold stored; go_simp)
        try go_ints
        refine hK _ _ y (by rw [listed_nil (by simp [go_sem, *])]; exact hT.idle _ _) ?_
        clear hK K
        try walk_nrm
        refine t_op hT rfl (by rfl) (by first | decide | assumption) (by first | rfl | (rw [hro]; rfl)) (fun _ hR K hK => ?_)
        replace hF := hF.trans hR
        clear hR
        go_simp
        try (unfold stored; go_simp)
        try go_ints
        refine hK _ _ y (by rw [listed_nil (by simp [go_sem, *])]; exact hT.idle _ _) ?_
        clear hK K
        try walk_nrm
        refine t_op hT rfl (by rfl) (by first | decide | assumption) (by first | rfl | (rw [hro]; rfl)) (fun _ hR K hK => ?_)
        replace hF := hF.trans hR
        clear hR
        go_simp
        try (unfold stored; go_simp)
        try go_ints
        refine hK _ _ y (by rw [listed_nil (by simp [go_sem, *])]; exact hT.idle _ _) ?_
        clear hK K
        try walk_nrm
        refine t_op hT rfl (by rfl) (by first | decide | assumption) (by first | rfl | (rw [hro]; rfl)) (fun _ hR K hK => ?_)
        replace hF := hF.trans hR
        clear hR
        go_simp
        try (unfold stored; go_simp)
        try go_ints
        refine hK _ _ y (by rw [listed_nil (by simp [go_sem, *])]; exact hT.idle _ _) ?_
        clear hK K
        try walk_nrm
        refine t_op hT rfl (by rfl) (by first | decide | assumption) (by first | rfl | (rw [hro]; rfl)) (fun _ hR K hK => ?_)
        replace hF := hF.trans hR
        clear hR
        go_simp
        try (unfold stored; go_simp)
        try go_ints
        refine hK _ _ y (by rw [listed_nil (by simp [go_sem, *])]; exact hT.idle _ _) ?_
        clear hK K
        try walk_nrm
        refine t_op hT rfl (by rfl) (by first | decide | assumption) (by first | rfl | (rw [hro]; rfl)) (fun _ hR K hK => ?_)
        replace hF := hF.trans hR
        clear hR
        go_simp
        try (unfold stored; go_simp)
        try go_ints
        refine hK _ _ y (by rw [listed_nil (by simp [go_sem, *])]; exact hT.idle _ _) ?_
        clear hK K
        try walk_nrm
        refine t_op hT rfl (by rfl) (by first | decide | assumption) (by first | rfl | (rw [hro]; rfl)) (fun _ hR K hK => ?_)
        replace hF := hF.trans hR
        clear hR
        go_simp
        try (unfold stored; go_simp)
        try go_ints
        refine hK _ _ y (by rw [listed_nil (by simp [go_sem, *])]; exact hT.idle _ _) ?_
        clear hK K
        try walk_nrm
        repeat (first | refine t_seq hT ?_ | refine t_block hT ?_ | refine t_skip hT ?_ | refine t_inBlock hT ?_ | refine t_rend hT ?_ | refine t_exit hT rfl ?_)
        refine t_cond hT (t := _) rfl ?_
        simp only [if_true, if_false, reduceIte, Bool.false_eq_true, *]
        repeat (first | refine t_seq hT ?_ | refine t_block hT ?_ | refine t_skip hT ?_ | refine t_inBlock hT ?_ | refine t_rend hT ?_ | refine t_exit hT rfl ?_)
        refine t_region hT [0, 1, 2, 3] rfl ?_
        refine t_op hT rfl (by rfl) (by first | decide | assumption) (by first | rfl | (rw [hro]; rfl)) (fun _ hR K hK => ?_)
        replace hF := hF.trans hR
        clear hR
        go_simp
        try (unfold stored; go_simp)
        try go_ints
        refine hK _ _ y (by rw [listed_nil (by simp [go_sem, *])]; exact hT.idle _ _) ?_
        clear hK K
        try walk_nrm
        refine t_op hT rfl (by rfl) (by first | decide | assumption) (by first | rfl | (rw [hro]; rfl)) (fun _ hR K hK => ?_)
        replace hF := hF.trans hR
        clear hR
        go_simp
        try (unfold stored; go_simp)
        try go_ints
        refine hK _ _ y (by rw [listed_nil (by simp [go_sem, *])]; exact hT.idle _ _) ?_
        clear hK K
        try walk_nrm
        refine t_op hT rfl (by rfl) (by first | decide | assumption) (by first | rfl | (rw [hro]; rfl)) (fun w₁ hR K hK => ?_)
        replace hF := hF.trans hR
        clear hR
        have hmk := run_mk' f.length (by omega) w₁
        have hev := evs_mk f.length (by omega) w₁
        go_simp
        obtain ⟨y1, e1, gw⟩ : ∃ y1 : Gh, y1 = (more y.1 w₁ (w₁.alloc (.cells (madeCells #[.int .i64 0] f.length) 3)), y.2) ∧ Gw ty Wg S y w₁ y1 (w₁.alloc (.cells (madeCells #[.int .i64 0] f.length) 3)) := ⟨_, rfl, gw_alloc (hB.rely hF) _⟩
        have hme : y1.1 w₁.heap.size := by rw [e1]; exact .inr ⟨Nat.le_refl _, by rw [alloc_size]; omega⟩
        refine hK _ _ y1 (by rw [e1, listed_nil (by simp [go_sem, *])]; exact dg_alloc _) ?_
        have hO := own_mk' w₁ f.length (by omega)
        replace hF : Own1 ty Wg S y y1 w₁.heap.size f.length f.length (List.replicate f.length 0) w (w₁.alloc (.cells (madeCells #[.int .i64 0] f.length) 3)) := ⟨(Gw.of_rg hB hF).trans gw, hO, hme, hF.size⟩
        clear hK K hmk hev gw hO e1 hme
        try walk_nrm
        generalize w₁.heap.size = N at *
        generalize w₁.alloc (.cells (madeCells #[.int .i64 0] f.length) 3) = W at *
        have hsub := hF.gw.sub
        refine t_op hT rfl (by rfl) (by first | decide | assumption) (by first | rfl | (rw [hro]; rfl)) (fun _ hR K hK => ?_)
        replace hF := hF.rely hR
        clear hR
        go_simp
        try (unfold stored; go_simp)
        try go_ints
        refine hK _ _ y1 (by rw [listed_nil (by simp [go_sem, *])]; exact hT.idle _ _) ?_
        clear hK K
        try walk_nrm
        repeat (first | refine t_seq hT ?_ | refine t_block hT ?_ | refine t_skip hT ?_ | refine t_inBlock hT ?_ | refine t_rend hT ?_ | refine t_exit hT rfl ?_)
        refine t_region hT [0, 1, 2] rfl ?_
        refine t_op hT rfl (by rfl) (by first | decide | assumption) (by first | rfl | (rw [hro]; rfl)) (fun _ hR K hK => ?_)
        replace hF := hF.rely hR
        clear hR
        go_simp
        try (unfold stored; go_simp)
        try go_ints
        refine hK _ _ y1 (by rw [listed_nil (by simp [go_sem, *])]; exact hT.idle _ _) ?_
        clear hK K
        try walk_nrm
        refine t_op hT rfl (by rfl) (by first | decide | assumption) (by first | rfl | (rw [hro]; rfl)) (fun _ hR K hK => ?_)
        replace hF := hF.rely hR
        clear hR
        go_simp
        try (unfold stored; go_simp)
        try go_ints
        refine hK _ _ y1 (by rw [listed_nil (by simp [go_sem, *])]; exact hT.idle _ _) ?_
        clear hK K
        try walk_nrm
        refine t_op hT rfl (by rfl) (by first | decide | assumption) (by first | rfl | (rw [hro]; rfl)) (fun _ hR K hK => ?_)
        replace hF := hF.rely hR
        clear hR
        go_simp
        try (unfold stored; go_simp)
        try go_ints
        refine hK _ _ y1 (by rw [listed_nil (by simp [go_sem, *])]; exact hT.idle _ _) ?_
        clear hK K
        try walk_nrm
        repeat (first | refine t_seq hT ?_ | refine t_block hT ?_ | refine t_skip hT ?_ | refine t_inBlock hT ?_ | refine t_rend hT ?_ | refine t_exit hT rfl ?_)
        refine t_loop hT (fun a y' w' => a.defers = [] ∧ a.tmps.size = 42 ∧ ∃ k : Nat, k ≤ f.length ∧ a.tmps.getD 0 undef = .slice A f.length c ∧ a.tmps.getD 1 undef = .slice B g.length d ∧ a.tmps.getD 5 undef = .slice (some ⟨N, 0, none⟩) f.length f.length ∧ a.tmps.getD 26 undef = .slice A f.length c ∧ a.tmps.getD 27 undef = .int .i64 f.length ∧ a.tmps.getD 28 undef = .int .i64 k ∧ y1 = y' ∧ Own1 ty Wg S y y1 N f.length f.length (upTo f.length (fun k => ap g (ap f k)) k) w w') (fun a _ _ => f.length - natOf (a.tmps.getD 28 undef)) ⟨rfl, rfl, 0, Nat.zero_le _, rfl, rfl, rfl, rfl, rfl, rfl, rfl, by rw [upTo_zero]; exact hF⟩ ?_
        clear hF
        rintro ⟨tmps, ds⟩ y' w' ⟨rfl, hsz, k, hk, h0, h1, h5, h26, h27, h28, rfl, hF⟩ IH
        obtain ⟨J, rfl⟩ : ∃ J : Nat → Value, tmps = #[J 0, J 1, J 2, J 3, J 4, J 5, J 6, J 7, J 8, J 9, J 10, J 11, J 12, J 13, J 14, J 15, J 16, J 17, J 18, J 19, J 20, J 21, J 22, J 23, J 24, J 25, J 26, J 27, J 28, J 29, J 30, J 31, J 32, J 33, J 34, J 35, J 36, J 37, J 38, J 39, J 40, J 41] := ⟨fun i => tmps.getD i undef, (lit tmps).trans (by rw [hsz]; rfl)⟩
        change J 0 = _ at h0
        change J 1 = _ at h1
        change J 5 = _ at h5
        change J 26 = _ at h26
        change J 27 = _ at h27
        change J 28 = _ at h28
        simp only [h0, h1, h5, h26, h27, h28]
        clear hsz h0 h1 h5 h26 h27
        have hμ : natOf (J 28) = k := by rw [h28]; exact Int.toNat_natCast k
        clear h28
        by_cases hlt : k < f.length
        · obtain ⟨ad, rfl, hcell⟩ := hA k hlt
          have hlt2 := GF.out.ap_lt hlt
          rw [GF.out.nth_ap hlt] at hcell
          obtain ⟨bd, rfl, hcell2⟩ := hA2 (ap f k) (by have := HL.out; omega)
          rw [GG.out.nth_ap (by have := HL.out; omega)] at hcell2
          have hlt3 : ap f k < g.length := by have := HL.out; omega
          have hst := hid (fun W' (h : Own1 ty Wg S y y1 N f.length f.length (upTo f.length (fun k => ap g (ap f k)) k) w W') => by have := h.store hB k (ap g (ap f k) : Int); rwa [upTo_set (F := fun k => ap g (ap f k)) hlt] at this)
          have hup := hid (show k < (upTo f.length (fun k => ap g (ap f k)) k).length by rw [upTo_len hk]; exact hlt)
          have hd : decide ((k : Int) < f.length) = true := by simpa using hlt
          have hwk := hid (show (k : Int) + 1 = ((k + 1 : Nat) : Int) by omega)
          repeat (first | refine t_seq hT ?_ | refine t_block hT ?_ | refine t_skip hT ?_ | refine t_inBlock hT ?_ | refine t_rend hT ?_ | refine t_exit hT rfl ?_)
          refine t_region hT [0] rfl ?_
          refine t_op hT rfl (by rfl) (by first | decide | assumption) (by first | rfl | (rw [hro]; rfl)) (fun _ hR K hK => ?_)
          replace hF := hF.rely hR
          clear hR
          go_simp
          try (unfold stored; go_simp)
          try go_ints
          refine hK _ _ y1 (by rw [listed_nil (by simp [go_sem, *])]; exact hT.idle _ _) ?_
          clear hK K
          try walk_nrm
          repeat (first | refine t_seq hT ?_ | refine t_block hT ?_ | refine t_skip hT ?_ | refine t_inBlock hT ?_ | refine t_rend hT ?_ | refine t_exit hT rfl ?_)
          refine t_cond hT (t := _) rfl ?_
          simp only [if_true, if_false, reduceIte, Bool.false_eq_true, *]
          repeat (first | refine t_seq hT ?_ | refine t_block hT ?_ | refine t_skip hT ?_ | refine t_inBlock hT ?_ | refine t_rend hT ?_ | refine t_exit hT rfl ?_)
          refine t_region hT [0, 1, 2, 3, 4] rfl ?_
          refine t_op hT rfl (by rfl) (by first | decide | assumption) (by first | rfl | (rw [hro]; rfl)) (fun _ hR K hK => ?_)
          replace hF := hF.rely hR
          clear hR
          go_simp
          try (unfold stored; go_simp)
          try go_ints
          refine hK _ _ y1 (by rw [listed_nil (by simp [go_sem, *])]; exact hT.idle _ _) ?_
          clear hK K
          try walk_nrm
          refine t_op hT rfl (by rfl) (by first | decide | assumption) (by first | rfl | (rw [hro]; rfl)) (fun _ hR K hK => ?_)
          replace hF := hF.rely hR
          clear hR
          go_simp
          try (unfold stored; go_simp)
          try go_ints
          refine hK _ _ y1 (by rw [listed_nil (by simp [go_sem, *])]; exact hT.idle _ _) ?_
          clear hK K
          try walk_nrm
          refine t_op hT rfl (by rfl) (by first | decide | assumption) (by first | rfl | (rw [hro]; rfl)) (fun _ hR K hK => ?_)
          replace hF := hF.rely hR
          clear hR
          have hce := (cell_rely (hS.add k) hF.gw.rg).trans hcell
          go_simp
          try (unfold stored; go_simp)
          try go_ints
          refine hK _ _ y1 (dg_reads ?_) ?_
          · co_evs (exact evm_read ((hS.add k).imp (hsub _) id))
          clear hK K
          try walk_nrm
          refine t_op hT rfl (by rfl) (by first | decide | assumption) (by first | rfl | (rw [hro]; rfl)) (fun _ hR K hK => ?_)
          replace hF := hF.rely hR
          clear hR
          go_simp
          try (unfold stored; go_simp)
          try go_ints
          refine hK _ _ y1 (by rw [listed_nil (by simp [go_sem, *])]; exact hT.idle _ _) ?_
          clear hK K
          try walk_nrm
          refine t_op hT rfl (by rfl) (by first | decide | assumption) (by first | rfl | (rw [hro]; rfl)) (fun _ hR K hK => ?_)
          replace hF := hF.rely hR
          clear hR
          go_simp
          try (unfold stored; go_simp)
          try go_ints
          refine hK _ _ y1 (by rw [listed_nil (by simp [go_sem, *])]; exact hT.idle _ _) ?_
          clear hK K
          try walk_nrm
          repeat (first | refine t_seq hT ?_ | refine t_block hT ?_ | refine t_skip hT ?_ | refine t_inBlock hT ?_ | refine t_rend hT ?_ | refine t_exit hT rfl ?_)
          refine t_region hT [0, 1, 2, 3, 4, 5, 6, 7] rfl ?_
          refine t_op hT rfl (by rfl) (by first | decide | assumption) (by first | rfl | (rw [hro]; rfl)) (fun _ hR K hK => ?_)
          replace hF := hF.rely hR
          clear hR
          go_simp
          try (unfold stored; go_simp)
          try go_ints
          refine hK _ _ y1 (by rw [listed_nil (by simp [go_sem, *])]; exact hT.idle _ _) ?_
          clear hK K
          try walk_nrm
          refine t_op hT rfl (by rfl) (by first | decide | assumption) (by first | rfl | (rw [hro]; rfl)) (fun _ hR K hK => ?_)
          replace hF := hF.rely hR
          clear hR
          go_simp
          try (unfold stored; go_simp)
          try go_ints
          refine hK _ _ y1 (by rw [listed_nil (by simp [go_sem, *])]; exact hT.idle _ _) ?_
          clear hK K
          try walk_nrm
          refine t_op hT rfl (by rfl) (by first | decide | assumption) (by first | rfl | (rw [hro]; rfl)) (fun _ hR K hK => ?_)
          replace hF := hF.rely hR
          clear hR
          go_simp
          try (unfold stored; go_simp)
          try go_ints
          refine hK _ _ y1 (by rw [listed_nil (by simp [go_sem, *])]; exact hT.idle _ _) ?_
          clear hK K
          try walk_nrm
          refine t_op hT rfl (by rfl) (by first | decide | assumption) (by first | rfl | (rw [hro]; rfl)) (fun _ hR K hK => ?_)
          replace hF := hF.rely hR
          clear hR
          go_simp
          try (unfold stored; go_simp)
          try go_ints
          refine hK _ _ y1 (by rw [listed_nil (by simp [go_sem, *])]; exact hT.idle _ _) ?_
          clear hK K
          try walk_nrm
          refine t_op hT rfl (by rfl) (by first | decide | assumption) (by first | rfl | (rw [hro]; rfl)) (fun _ hR K hK => ?_)
          replace hF := hF.rely hR
          clear hR
          go_simp
          try (unfold stored; go_simp)
          try go_ints
          refine hK _ _ y1 (by rw [listed_nil (by simp [go_sem, *])]; exact hT.idle _ _) ?_
          clear hK K
          try walk_nrm
          refine t_op hT rfl (by rfl) (by first | decide | assumption) (by first | rfl | (rw [hro]; rfl)) (fun _ hR K hK => ?_)
          replace hF := hF.rely hR
          clear hR
          have hce := (cell_rely (hS2.add (ap f k)) hF.gw.rg).trans hcell2
          go_simp
          try (unfold stored; go_simp)
          try go_ints
          refine hK _ _ y1 (dg_reads ?_) ?_
          · co_evs (exact evm_read ((hS2.add (ap f k)).imp (hsub _) id))
          clear hK K
          try walk_nrm
          refine t_op hT rfl (by rfl) (by first | decide | assumption) (by first | rfl | (rw [hro]; rfl)) (fun _ hR K hK => ?_)
          replace hF := hF.rely hR
          clear hR
          go_simp
          try (unfold stored; go_simp)
          try go_ints
          refine hK _ _ y1 (by rw [listed_nil (by simp [go_sem, *])]; exact hT.idle _ _) ?_
          clear hK K
          try walk_nrm
          refine t_op hT rfl (by rfl) (by first | decide | assumption) (by first | rfl | (rw [hro]; rfl)) (fun _ hR K hK => ?_)
          replace hF := hF.rely hR
          clear hR
          have hcl := hF.own.cell hup.out; have hfz := hF.own.frozen k
          go_simp
          try (unfold stored; go_simp)
          try go_ints
          refine hK _ _ y1 (dg_store hF.mem (by co_evs (exact evm_write hF.mem))) ?_
          clear hK K
          try walk_nrm
          replace hF := hst.out _ hF
          clear hce hcl hfz
          repeat (first | refine t_seq hT ?_ | refine t_block hT ?_ | refine t_skip hT ?_ | refine t_inBlock hT ?_ | refine t_rend hT ?_ | refine t_exit hT rfl ?_)
          refine t_region hT [0, 1] rfl ?_
          refine t_op hT rfl (by rfl) (by first | decide | assumption) (by first | rfl | (rw [hro]; rfl)) (fun _ hR K hK => ?_)
          replace hF := hF.rely hR
          clear hR
          go_simp
          try (unfold stored; go_simp)
          try go_ints
          refine hK _ _ y1 (by rw [listed_nil (by simp [go_sem, *])]; exact hT.idle _ _) ?_
          clear hK K
          try walk_nrm
          refine t_op hT rfl (by rfl) (by first | decide | assumption) (by first | rfl | (rw [hro]; rfl)) (fun _ hR K hK => ?_)
          replace hF := hF.rely hR
          clear hR
          go_simp
          try (unfold stored; go_simp)
          try go_ints
          refine hK _ _ y1 (by rw [listed_nil (by simp [go_sem, *])]; exact hT.idle _ _) ?_
          clear hK K
          try walk_nrm
          repeat (first | refine t_seq hT ?_ | refine t_block hT ?_ | refine t_skip hT ?_ | refine t_inBlock hT ?_ | refine t_rend hT ?_ | refine t_exit hT rfl ?_)
          exact IH _ _ _ ⟨rfl, rfl, k + 1, by omega, rfl, rfl, rfl, rfl, rfl, congrArg (Value.int .i64) hwk.out, rfl, hF⟩ (by show f.length - natOf (.int .i64 ((k : Int) + 1)) < f.length - natOf (J 28); rw [hμ, hwk.out]; show f.length - (((k + 1 : Nat) : Int)).toNat < _; rw [Int.toNat_natCast]; omega)
        · obtain rfl : k = f.length := by omega
          have hd : decide ((f.length : Int) < f.length) = false := by simp
          repeat (first | refine t_seq hT ?_ | refine t_block hT ?_ | refine t_skip hT ?_ | refine t_inBlock hT ?_ | refine t_rend hT ?_ | refine t_exit hT rfl ?_)
          refine t_region hT [0] rfl ?_
          refine t_op hT rfl (by rfl) (by first | decide | assumption) (by first | rfl | (rw [hro]; rfl)) (fun _ hR K hK => ?_)
          replace hF := hF.rely hR
          clear hR
          go_simp
          try (unfold stored; go_simp)
          try go_ints
          refine hK _ _ y1 (by rw [listed_nil (by simp [go_sem, *])]; exact hT.idle _ _) ?_
          clear hK K
          try walk_nrm
          repeat (first | refine t_seq hT ?_ | refine t_block hT ?_ | refine t_skip hT ?_ | refine t_inBlock hT ?_ | refine t_rend hT ?_ | refine t_exit hT rfl ?_)
          refine t_cond hT (t := _) rfl ?_
          simp only [if_true, if_false, reduceIte, Bool.false_eq_true, *]
          repeat (first | refine t_seq hT ?_ | refine t_block hT ?_ | refine t_skip hT ?_ | refine t_inBlock hT ?_ | refine t_rend hT ?_ | refine t_exit hT rfl ?_)
          refine t_region hT [0, 1] rfl ?_
          refine t_op hT rfl (by rfl) (by first | decide | assumption) (by first | rfl | (rw [hro]; rfl)) (fun _ hR K hK => ?_)
          replace hF := hF.rely hR
          clear hR
          go_simp
          try (unfold stored; go_simp)
          try go_ints
          refine hK _ _ y1 (by rw [listed_nil (by simp [go_sem, *])]; exact hT.idle _ _) ?_
          clear hK K
          try walk_nrm
          refine t_op hT rfl (by rfl) (by first | decide | assumption) (by first | rfl | (rw [hro]; rfl)) (fun _ hR K hK => ?_)
          replace hF := hF.rely hR
          clear hR
          go_simp
          try (unfold stored; go_simp)
          try go_ints
          refine hK _ _ y1 (by rw [listed_nil (by simp [go_sem, *])]; exact hT.idle _ _) ?_
          clear hK K
          try walk_nrm
          repeat (first | refine t_seq hT ?_ | refine t_block hT ?_ | refine t_skip hT ?_ | refine t_inBlock hT ?_ | refine t_rend hT ?_ | refine t_exit hT rfl ?_)
          refine t_ret hT rfl rfl rfl Try.func25 (resultsC_tmp (by rfl) _) (hc _ _ _ ?_)
          rw [upTo_all] at hF
          refine ⟨some ⟨N, 0, none⟩, f.length, ?_, ?_, fun ad e => ?_, hF.gw, fun e => ?_⟩
          · rw [HE.out, mk_len]; rfl
          · rw [HE.out]; exact hF.own.rd
          · cases e; exact .inl hF.mem
          · have := congrArg List.length e
            rw [HE.out, mk_len, List.length_nil] at this
            omega
      · have hl' : ((f.length : Int) != (g.length : Int)) = true := by simp; omega
        have HL := hid hl
        clear hl
        refine t_op hT rfl (by rfl) (by first | decide | assumption) (by first | rfl | (rw [hro]; rfl)) (fun _ hR K hK => ?_)
        replace hF := hF.trans hR
        clear hR
        go_simp
        try (unfold stored; go_simp)
        try go_ints
        refine hK _ _ y (by rw [listed_nil (by simp [go_sem, *])]; exact hT.idle _ _) ?_
        clear hK K
        try walk_nrm
        refine t_op hT rfl (by rfl) (by first | decide | assumption) (by first | rfl | (rw [hro]; rfl)) (fun _ hR K hK => ?_)
        replace hF := hF.trans hR
        clear hR
        go_simp
        try (unfold stored; go_simp)
        try go_ints
        refine hK _ _ y (by rw [listed_nil (by simp [go_sem, *])]; exact hT.idle _ _) ?_
        clear hK K
        try walk_nrm
        refine t_op hT rfl (by rfl) (by first | decide | assumption) (by first | rfl | (rw [hro]; rfl)) (fun _ hR K hK => ?_)
        replace hF := hF.trans hR
        clear hR
        go_simp
        try (unfold stored; go_simp)
        try go_ints
        refine hK _ _ y (by rw [listed_nil (by simp [go_sem, *])]; exact hT.idle _ _) ?_
        clear hK K
        try walk_nrm
        refine t_op hT rfl (by rfl) (by first | decide | assumption) (by first | rfl | (rw [hro]; rfl)) (fun _ hR K hK => ?_)
        replace hF := hF.trans hR
        clear hR
        go_simp
        try (unfold stored; go_simp)
        try go_ints
        refine hK _ _ y (by rw [listed_nil (by simp [go_sem, *])]; exact hT.idle _ _) ?_
        clear hK K
        try walk_nrm
        refine t_op hT rfl (by rfl) (by first | decide | assumption) (by first | rfl | (rw [hro]; rfl)) (fun _ hR K hK => ?_)
        replace hF := hF.trans hR
        clear hR
        go_simp
        try (unfold stored; go_simp)
        try go_ints
        refine hK _ _ y (by rw [listed_nil (by simp [go_sem, *])]; exact hT.idle _ _) ?_
        clear hK K
        try walk_nrm
        refine t_op hT rfl (by rfl) (by first | decide | assumption) (by first | rfl | (rw [hro]; rfl)) (fun _ hR K hK => ?_)
        replace hF := hF.trans hR
        clear hR
        go_simp
        try (unfold stored; go_simp)
        try go_ints
        refine hK _ _ y (by rw [listed_nil (by simp [go_sem, *])]; exact hT.idle _ _) ?_
        clear hK K
        try walk_nrm
        refine t_op hT rfl (by rfl) (by first | decide | assumption) (by first | rfl | (rw [hro]; rfl)) (fun _ hR K hK => ?_)
        replace hF := hF.trans hR
        clear hR
        go_simp
        try (unfold stored; go_simp)
        try go_ints
        refine hK _ _ y (by rw [listed_nil (by simp [go_sem, *])]; exact hT.idle _ _) ?_
        clear hK K
        try walk_nrm
        refine t_op hT rfl (by rfl) (by first | decide | assumption) (by first | rfl | (rw [hro]; rfl)) (fun _ hR K hK => ?_)
        replace hF := hF.trans hR
        clear hR
        go_simp
        try (unfold stored; go_simp)
        try go_ints
        refine hK _ _ y (by rw [listed_nil (by simp [go_sem, *])]; exact hT.idle _ _) ?_
        clear hK K
        try walk_nrm
        refine t_op hT rfl (by rfl) (by first | decide | assumption) (by first | rfl | (rw [hro]; rfl)) (fun _ hR K hK => ?_)
        replace hF := hF.trans hR
        clear hR
        go_simp
        try (unfold stored; go_simp)
        try go_ints
        refine hK _ _ y (by rw [listed_nil (by simp [go_sem, *])]; exact hT.idle _ _) ?_
        clear hK K
        try walk_nrm
        repeat (first | refine t_seq hT ?_ | refine t_block hT ?_ | refine t_skip hT ?_ | refine t_inBlock hT ?_ | refine t_rend hT ?_ | refine t_exit hT rfl ?_)
        refine t_cond hT (t := _) rfl ?_
        simp only [if_true, if_false, reduceIte, Bool.false_eq_true, *]
        repeat (first | refine t_seq hT ?_ | refine t_block hT ?_ | refine t_skip hT ?_ | refine t_inBlock hT ?_ | refine t_rend hT ?_ | refine t_exit hT rfl ?_)
        refine t_region hT [0] rfl ?_
        refine t_op hT rfl (by rfl) (by first | decide | assumption) (by first | rfl | (rw [hro]; rfl)) (fun _ hR K hK => ?_)
        replace hF := hF.trans hR
        clear hR
        go_simp
        try (unfold stored; go_simp)
        try go_ints
        refine hK _ _ y (by rw [listed_nil (by simp [go_sem, *])]; exact hT.idle _ _) ?_
        clear hK K
        try walk_nrm
        repeat (first | refine t_seq hT ?_ | refine t_block hT ?_ | refine t_skip hT ?_ | refine t_inBlock hT ?_ | refine t_rend hT ?_ | refine t_exit hT rfl ?_)
        refine t_ret hT rfl rfl rfl Try.func25 (resultsC_tmp (by rfl) _) (hc _ _ _ ?_)
        exact retT_nil (behindL_no fun h => HL.out h.2.2) (Gw.of_rg hB hF)
    · rw [show mapOkB g = false by simpa using hg]
      have HL := hid hg
      clear hg hf
      refine t_op hT rfl (by rfl) (by first | decide | assumption) (by first | rfl | (rw [hro]; rfl)) (fun _ hR K hK => ?_)
      replace hF := hF.trans hR
      clear hR
      go_simp
      try (unfold stored; go_simp)
      try go_ints
      refine hK _ _ y (by rw [listed_nil (by simp [go_sem, *])]; exact hT.idle _ _) ?_
      clear hK K
      try walk_nrm
      refine t_op hT rfl (by rfl) (by first | decide | assumption) (by first | rfl | (rw [hro]; rfl)) (fun _ hR K hK => ?_)
      replace hF := hF.trans hR
      clear hR
      go_simp
      try (unfold stored; go_simp)
      try go_ints
      refine hK _ _ y (by rw [listed_nil (by simp [go_sem, *])]; exact hT.idle _ _) ?_
      clear hK K
      try walk_nrm
      refine t_op hT rfl (by rfl) (by first | decide | assumption) (by first | rfl | (rw [hro]; rfl)) (fun _ hR K hK => ?_)
      replace hF := hF.trans hR
      clear hR
      go_simp
      try (unfold stored; go_simp)
      try go_ints
      refine hK _ _ y (by rw [listed_nil (by simp [go_sem, *])]; exact hT.idle _ _) ?_
      clear hK K
      try walk_nrm
      refine t_un hT rfl (by rfl) ?_
      try walk_nrm
      refine t_un hT rfl (by rfl) ?_
      try walk_nrm
      refine t_un hT rfl (by rfl) ?_
      try walk_nrm
      refine t_un hT rfl (by rfl) ?_
      try walk_nrm
      refine t_un hT rfl (by rfl) ?_
      try walk_nrm
      refine t_op hT rfl (by rfl) (by first | decide | assumption) (by first | rfl | (rw [hro]; rfl)) (fun _ hR K hK => ?_)
      replace hF := hF.trans hR
      clear hR
      go_simp
      try (unfold stored; go_simp)
      try go_ints
      refine hK _ _ y (by rw [listed_nil (by simp [go_sem, *])]; exact hT.idle _ _) ?_
      clear hK K
      try walk_nrm
      repeat (first | refine t_seq hT ?_ | refine t_block hT ?_ | refine t_skip hT ?_ | refine t_inBlock hT ?_ | refine t_rend hT ?_ | refine t_exit hT rfl ?_)
      refine t_cond hT (t := _) rfl ?_
      simp only [if_true, if_false, reduceIte, Bool.false_eq_true, *]
      repeat (first | refine t_seq hT ?_ | refine t_block hT ?_ | refine t_skip hT ?_ | refine t_inBlock hT ?_ | refine t_rend hT ?_ | refine t_exit hT rfl ?_)
      refine t_region hT [0] rfl ?_
      refine t_op hT rfl (by rfl) (by first | decide | assumption) (by first | rfl | (rw [hro]; rfl)) (fun _ hR K hK => ?_)
      replace hF := hF.trans hR
      clear hR
      go_simp
      try (unfold stored; go_simp)
      try go_ints
      refine hK _ _ y (by rw [listed_nil (by simp [go_sem, *])]; exact hT.idle _ _) ?_
      clear hK K
      try walk_nrm
      repeat (first | refine t_seq hT ?_ | refine t_block hT ?_ | refine t_skip hT ?_ | refine t_inBlock hT ?_ | refine t_rend hT ?_ | refine t_exit hT rfl ?_)
      refine t_ret hT rfl rfl rfl Try.func25 (resultsC_tmp (by rfl) _) (hc _ _ _ ?_)
      exact retT_nil (behindL_no fun h => HL.out h.2.1) (Gw.of_rg hB hF)
  · rw [show mapOkB f = false by simpa using hf]
    have HL := hid hf
    clear hf
    refine t_op hT rfl (by rfl) (by first | decide | assumption) (by first | rfl | (rw [hro]; rfl)) (fun _ hR K hK => ?_)
    replace hF := hF.trans hR
    clear hR
    go_simp
    try (unfold stored; go_simp)
    try go_ints
    refine hK _ _ y (by rw [listed_nil (by simp [go_sem, *])]; exact hT.idle _ _) ?_
    clear hK K
    try walk_nrm
    refine t_op hT rfl (by rfl) (by first | decide | assumption) (by first | rfl | (rw [hro]; rfl)) (fun _ hR K hK => ?_)
    replace hF := hF.trans hR
    clear hR
    go_simp
    try (unfold stored; go_simp)
    try go_ints
    refine hK _ _ y (by rw [listed_nil (by simp [go_sem, *])]; exact hT.idle _ _) ?_
    clear hK K
    try walk_nrm
    refine t_un hT rfl (by rfl) ?_
    try walk_nrm
    refine t_un hT rfl (by rfl) ?_
    try walk_nrm
    refine t_un hT rfl (by rfl) ?_
    try walk_nrm
    refine t_op hT rfl (by rfl) (by first | decide | assumption) (by first | rfl | (rw [hro]; rfl)) (fun _ hR K hK => ?_)
    replace hF := hF.trans hR
    clear hR
    go_simp
    try (unfold stored; go_simp)
    try go_ints
    refine hK _ _ y (by rw [listed_nil (by simp [go_sem, *])]; exact hT.idle _ _) ?_
    clear hK K
    try walk_nrm
    refine t_op hT rfl (by rfl) (by first | decide | assumption) (by first | rfl | (rw [hro]; rfl)) (fun _ hR K hK => ?_)
    replace hF := hF.trans hR
    clear hR
    go_simp
    try (unfold stored; go_simp)
    try go_ints
    refine hK _ _ y (by rw [listed_nil (by simp [go_sem, *])]; exact hT.idle _ _) ?_
    clear hK K
    try walk_nrm
    refine t_un hT rfl (by rfl) ?_
    try walk_nrm
    refine t_un hT rfl (by rfl) ?_
    try walk_nrm
    refine t_un hT rfl (by rfl) ?_
    try walk_nrm
    refine t_un hT rfl (by rfl) ?_
    try walk_nrm
    refine t_un hT rfl (by rfl) ?_
    try walk_nrm
    refine t_op hT rfl (by rfl) (by first | decide | assumption) (by first | rfl | (rw [hro]; rfl)) (fun _ hR K hK => ?_)
    replace hF := hF.trans hR
    clear hR
    go_simp
    try (unfold stored; go_simp)
    try go_ints
    refine hK _ _ y (by rw [listed_nil (by simp [go_sem, *])]; exact hT.idle _ _) ?_
    clear hK K
    try walk_nrm
    repeat (first | refine t_seq hT ?_ | refine t_block hT ?_ | refine t_skip hT ?_ | refine t_inBlock hT ?_ | refine t_rend hT ?_ | refine t_exit hT rfl ?_)
    refine t_cond hT (t := _) rfl ?_
    simp only [if_true, if_false, reduceIte, Bool.false_eq_true, *]
    repeat (first | refine t_seq hT ?_ | refine t_block hT ?_ | refine t_skip hT ?_ | refine t_inBlock hT ?_ | refine t_rend hT ?_ | refine t_exit hT rfl ?_)
    refine t_region hT [0] rfl ?_
    refine t_op hT rfl (by rfl) (by first | decide | assumption) (by first | rfl | (rw [hro]; rfl)) (fun _ hR K hK => ?_)
    replace hF := hF.trans hR
    clear hR
    go_simp
    try (unfold stored; go_simp)
    try go_ints
    refine hK _ _ y (by rw [listed_nil (by simp [go_sem, *])]; exact hT.idle _ _) ?_
    clear hK K
    try walk_nrm
    repeat (first | refine t_seq hT ?_ | refine t_block hT ?_ | refine t_skip hT ?_ | refine t_inBlock hT ?_ | refine t_rend hT ?_ | refine t_exit hT rfl ?_)
    refine t_ret hT rfl rfl rfl Try.func25 (resultsC_tmp (by rfl) _) (hc _ _ _ ?_)
    exact retT_nil (behindL_no fun h => HL.out h.1) (Gw.of_rg hB hF)
end

end Go.Proofs.Ytkbfcaaihellfaa

/- Walks in company: the append; slices.Clone. -/
namespace Go.Proofs.Ytkbfcaaihellfaa
open Go.Conc Go.ConcN Go.RowKit
set_option linter.unusedVariables false
set_option linter.unusedSectionVars false

theorem run_eqnil (w : World) (a : Option Addr) (n c : Nat) : (binOp .eql 22 (.slice a n c) (.slice none 0 0)).run Try.prog w = .ok (.bool a.isNone) w := Lib.run_eql_slice_nil w _ _ a n c 0 0 Try.underlying22
theorem evs_eqIn_nil (w : World) (d : Nat) (a : Option Addr) (n c : Nat) (es : Array Event) : (Op.equalIn (d + 1) 22 (.slice a n c) (.slice none 0 0)).events Try.prog w es = es := by
  cases a <;> simp [Op.equalIn, run_underlying Try.underlying22]
theorem evs_eqnil (w : World) (a : Option Addr) (n c : Nat) (es : Array Event) : (binOp .eql 22 (.slice a n c) (.slice none 0 0)).events Try.prog w es = es := by
  simp only [binOp]
  have h1 := Lib.run_equalIn_slice_nil (P := Try.prog) w 9999 _ _ a n c 0 0 Try.underlying22
  have h2 := evs_eqIn_nil w 9999 a n c es
  simp [Op.equal, Op.maxDepth, h1, h2]
theorem run_neqnil (w : World) (a : Option Addr) (n c : Nat) : (binOp .neq 22 (.slice a n c) (.slice none 0 0)).run Try.prog w = .ok (.bool (!a.isNone)) w := run_neq_slice_nil_any w _ _ a n c 0 0 Try.underlying22
theorem evs_neqnil (w : World) (a : Option Addr) (n c : Nat) (es : Array Event) : (binOp .neq 22 (.slice a n c) (.slice none 0 0)).events Try.prog w es = es := by
  simp only [binOp]
  have h1 := Lib.run_equalIn_slice_nil (P := Try.prog) w 9999 _ _ a n c 0 0 Try.underlying22
  have h2 := evs_eqIn_nil w 9999 a n c es
  simp [Op.equal, Op.maxDepth, h1, h2]
theorem run_bs (w : World) : (Instr.buildSlice 22 0 #[]).run Try.prog w = .ok (.slice (some ⟨w.heap.size, 0, none⟩) 0 0) (w.alloc (.cells #[] 3)) := by
  obtain ⟨i0, hi, hz0, hz1, hz2⟩ := info_parts info_int
  simp [Instr.buildSlice, run_underlying Try.underlying22, go_sem, hi, hz1, Instr.fill]
theorem evs_bs (w : World) (es : Array Event) : (Instr.buildSlice 22 0 #[]).events Try.prog w es = es := by
  obtain ⟨i0, hi, hz0, hz1, hz2⟩ := info_parts info_int
  simp [Instr.buildSlice, run_underlying Try.underlying22, go_sem, hi, hz1, Instr.fill]
theorem own_bs (w : World) : Own 0 (w.alloc (.cells #[] 3)) (.slice (some ⟨w.heap.size, 0, none⟩) 0 0) [] := by
  have := World.ownsRow_lit (base := 0) (e := 3) (size := 1) w #[] 0 (Nat.zero_le _) (by unfold maxLen; omega) (by simp)
  unfold Own
  simpa using this

section
variable [Go.ConcR.Payload] {main : Bool} {ty : TypeId} {Wg : Nat} {S : Nat → Prop} {T : Gh → Goroutine → World → Prop} {y y1 y2 : Gh} {w w1 w2 : World}
/-- append(v, news...): v of its own; what comes of it is its own. -/
theorem append_g (y : Gh) {o : Oper} {a : Act} {s x : Operand} {t e : TypeId} {i0 : TypeInfo} {z : Value} {bytes : Nat} (ho : o.op = .call { callee := .builtin .append, args := #[s, x], argTypes := #[t, t] })
    (ht : Try.prog.underlying t = some (.slice e)) (hi : Try.prog.info? e = some i0) (hz0 : i0.zero = some z) (hz1 : i0.size = 1) (hz2 : i0.bytes = bytes) (hb1 : bytes ≤ 64) (hzs : z.cells.size = 1)
    {v : Value} {n : Nat} {xs news : List Value} {ad : Addr} {c2 : Nat} (hs : a.eval s = v) (hx : a.eval x = .slice (some ad) news.length c2) (hown : w.ownsRow 0 e 1 v n xs) (hN : ∀ N, v.ownBlock = some N → y.1 N)
    (hnews : ∀ j u, news[j]? = some u → w.cell? (ad.add j) = some u) (hone : ∀ u ∈ news, u.oneCell' = true) (hS : y.1 ad.block ∨ S ad.block) (hl : n + news.length ≤ 1000000000) {fn : FuncId} {K : Act → World → Prop}
    (h : ∀ v' w' y', y' = (more y.1 w w', y.2) → DG main Wg S y w w' (listed Try.prog fn a o w) y' → w'.ownsRow 0 e 1 v' (n + news.length) (xs ++ news) → (∀ r, v'.ownBlock = some r → y'.1 r ∧ (v.ownBlock = some r ∨ w.heap.size ≤ r)) → w.grownBy w' v.ownBlock → K (a.put o.dst v') w') :
    uponK o a K ((execOp a.eval o).run Try.prog w) := by
  have hbb : (n + news.length) * bytes ≤ 140737488355328 := Nat.le_trans (Nat.mul_le_mul hl hb1) (by omega)
  obtain ⟨v', w', hr, hown', hgrow, _, hblk⟩ := run_append_own_at (P := Try.prog) w 0 t o.type e i0 z 1 bytes ht hi hz0 hz1 hz2 hzs (by decide) v n xs hown ad news.length c2 news (by simp) hnews hone (by unfold maxLen; omega) hbb (Nat.zero_le _)
  have hev := events_append_where (P := Try.prog) w 0 t o.type e i0 z 1 bytes ht hi hz0 hz1 hz2 v n xs hown ad news.length c2 news (by simp) hnews hone (by unfold maxLen; omega) hbb
  refine uponK_append s x t ho hs hx hr (h v' w' _ rfl ⟨⟨fun b hb hlt => hgrow.block b hlt fun e => hb (hN b e.symm), hgrow.size, hgrow.tape, hgrow.os, hgrow.output, fun e he => .inl ?_⟩, rfl⟩ hown' (fun r hr' => ?_) hgrow)
  · have he' := mem_listed he
    rw [events_append_op s x t ho hs hx] at he'
    rcases hev e he' with ⟨ad', h1, h2⟩ | ⟨m, rfl, hm⟩
    · refine .inl ⟨ad', h1, ?_⟩
      rcases h2 with ⟨h2, h3⟩ | h2
      · rw [h3]; exact hS.imp id fun h => ⟨h, h2⟩
      · exact .inl (hN _ h2.symm)
    · unfold Neutral at hm
      subst hm
      exact .inr (.inr rfl)
  · rcases hblk with hb | hb
    · rw [hb] at hr'; exact ⟨.inl (hN r hr'), .inl hr'⟩
    · rw [hb] at hr'
      cases hr'
      have := World.ownsRow.lt hown' w.heap.size hb
      exact ⟨.inr ⟨Nat.le_refl _, this.2⟩, .inr (Nat.le_refl _)⟩

theorem clone_g (hT : Clo Try.prog main (RG ty Wg S) (DG main Wg S) T) (ad : Addr) (c : Nat) (xs : List Int) (hA : RdA w (some ad) xs) (hS : Sees y S (some ad)) (hn : xs.length ≤ 1048577) (h1 : 1 ≤ xs.length) (hB : Bd S y w) :
    CallsT Try.prog T 61 #[.slice (some ad) xs.length c] y w fun v y' w' => ∃ r c', v = .slice (some ⟨r, 0, none⟩) xs.length c' ∧ Own 0 w' v xs ∧ y'.1 r ∧ w.heap.size ≤ r ∧ Gw ty Wg S y w y' w' := by
  refine callsT_of Try.func61 rfl fun fr cs hc => ?_
  simp only [Try.ntmps61, List.size_toArray, List.length_cons, List.length_nil, Nat.reduceAdd, Nat.reduceSub, Array.replicate_succ, Array.replicate_zero, List.push_toArray, List.append_toArray, List.nil_append, List.cons_append]
  have hF : RG ty Wg S y w w := RM.refl w
  have hq := run_eqnil
  have hq2 := evs_eqnil
  repeat (first | refine t_seq hT ?_ | refine t_block hT ?_ | refine t_skip hT ?_ | refine t_inBlock hT ?_ | refine t_rend hT ?_ | refine t_exit hT rfl ?_)
  refine t_region hT [0] rfl ?_
  refine t_op hT rfl (by rfl) (by first | decide | assumption) (by first | rfl | (rw [hro]; rfl)) (fun _ hR K hK => ?_)
  replace hF := hF.trans hR
  clear hR
  go_simp
  try (unfold stored; go_simp)
  try go_ints
  refine hK _ _ y (by rw [listed_nil (by simp [go_sem, *])]; exact hT.idle _ _) ?_
  clear hK K
  try walk_nrm
  repeat (first | refine t_seq hT ?_ | refine t_block hT ?_ | refine t_skip hT ?_ | refine t_inBlock hT ?_ | refine t_rend hT ?_ | refine t_exit hT rfl ?_)
  refine t_region hT [0, 1] rfl ?_
  refine t_op hT rfl (by rfl) (by first | decide | assumption) (by first | rfl | (rw [hro]; rfl)) (fun _ hR K hK => ?_)
  replace hF := hF.trans hR
  clear hR
  go_simp
  try (unfold stored; go_simp)
  try go_ints
  refine hK _ _ y (by rw [listed_nil (by simp [go_sem, *])]; exact hT.idle _ _) ?_
  clear hK K
  try walk_nrm
  refine t_op hT rfl (by rfl) (by first | decide | assumption) (by first | rfl | (rw [hro]; rfl)) (fun _ hR K hK => ?_)
  replace hF := hF.trans hR
  clear hR
  go_simp
  try (unfold stored; go_simp)
  try go_ints
  refine hK _ _ y (by rw [listed_nil (by simp [go_sem, *])]; exact hT.idle _ _) ?_
  clear hK K
  try walk_nrm
  repeat (first | refine t_seq hT ?_ | refine t_block hT ?_ | refine t_skip hT ?_ | refine t_inBlock hT ?_ | refine t_rend hT ?_ | refine t_exit hT rfl ?_)
  refine t_cond hT (t := _) rfl ?_
  simp only [if_true, if_false, reduceIte, Bool.false_eq_true, *]
  repeat (first | refine t_seq hT ?_ | refine t_block hT ?_ | refine t_skip hT ?_ | refine t_inBlock hT ?_ | refine t_rend hT ?_ | refine t_exit hT rfl ?_)
  refine t_region hT [0, 1, 2, 3] rfl ?_
  refine t_op hT rfl (by rfl) (by first | decide | assumption) (by first | rfl | (rw [hro]; rfl)) (fun w₁ hR K hK => ?_)
  replace hF := hF.trans hR
  clear hR
  have hbs := run_bs w₁
  have hes := evs_bs w₁
  go_simp
  obtain ⟨y1, e1, gw⟩ : ∃ y1 : Gh, y1 = (more y.1 w₁ (w₁.alloc (.cells #[] 3)), y.2) ∧ Gw ty Wg S y w₁ y1 (w₁.alloc (.cells #[] 3)) := ⟨_, rfl, gw_alloc (hB.rely hF) _⟩
  have hme : y1.1 w₁.heap.size := by rw [e1]; exact .inr ⟨Nat.le_refl _, by rw [alloc_size]; omega⟩
  refine hK _ _ y1 (by rw [e1, listed_nil (by simp [go_sem, *])]; exact dg_alloc _) ?_
  have hO := own_bs w₁
  replace hF : Own1 ty Wg S y y1 w₁.heap.size 0 0 [] w (w₁.alloc (.cells #[] 3)) := ⟨(Gw.of_rg hB hF).trans gw, hO, hme, hF.size⟩
  clear hK K hbs hes gw hO e1 hme
  try walk_nrm
  generalize w₁.heap.size = N at *
  generalize w₁.alloc (.cells #[] 3) = W at *
  have hsub := hF.gw.sub
  refine t_op hT rfl (by rfl) (by first | decide | assumption) (by first | rfl | (rw [hro]; rfl)) (fun _ hR K hK => ?_)
  replace hF := hF.rely hR
  clear hR
  go_simp
  try (unfold stored; go_simp)
  try go_ints
  refine hK _ _ y1 (by rw [listed_nil (by simp [go_sem, *])]; exact hT.idle _ _) ?_
  clear hK K
  try walk_nrm
  refine t_op hT rfl (by rfl) (by first | decide | assumption) (by first | rfl | (rw [hro]; rfl)) (fun w₁ hR K hK => ?_)
  replace hF := hF.rely hR
  clear hR
  obtain ⟨i0, hi, hz0, hz1, hz2⟩ := info_parts info_int
  refine append_g y1 (s := .tmp 5) (x := .tmp 6) (n := 0) (xs := []) (c2 := c) (v := .slice (some ⟨N, 0, none⟩) 0 0) (news := xs.map (Value.int .i64)) rfl Try.underlying22 hi hz0 hz1 hz2 (by decide) rfl rfl (by simp [Act.eval]) hF.own (fun r hr => by cases hr; exact hF.mem) (fun j u hj => ?_) (fun u hu => by obtain ⟨z, _, rfl⟩ := List.mem_map.1 hu; rfl) ((hS ad rfl).imp (hsub _) id) (by simp; omega) (fun v' w' y' e1 hdg ho hbl hgr => hK _ _ y' hdg ?_)
  · obtain ⟨z, hz', rfl⟩ := by simpa using hj
    have hlt : j < xs.length := (List.getElem?_eq_some_iff.1 hz').1
    obtain ⟨ad', e, hcl⟩ := hA j hlt
    cases e
    rw [cell_rely (by rw [block_of_add]; exact hS ad rfl) hF.gw.rg, hcl, nth_lt hlt]
    rw [List.getElem?_eq_getElem hlt] at hz'
    cases hz'; rfl
  have ho2 : Own 0 w' v' xs := by unfold Own; simpa using ho
  obtain ⟨r, c', e, _, hrl⟩ := ho2.pos (by omega)
  subst e
  obtain ⟨hm, hnew⟩ := hbl r rfl
  have hge : w.heap.size ≤ r := by
    rcases hnew with h | h
    · cases h; exact hF.new
    · exact Nat.le_trans hF.gw.rg.size h
  have gw : Gw ty Wg S y w y' w' := by
    have nb : ∀ b, y.1 b ∨ S b → b < w₁.heap.size ∧ b ≠ N := fun b hb => by
      have h1 := hB b hb
      have h2 := hF.new
      have h3 := hF.gw.rg.size
      exact ⟨by omega, by omega⟩
    refine ⟨⟨fun b hb => (hgr.block b (nb b hb).1 (fun e => (nb b hb).2 (by cases e; rfl))).trans (hF.gw.rg.keep b hb), Nat.le_trans hF.gw.rg.size hgr.size, fun hl => live_heap (hgr.block Wg ?_ (fun e => ?_)) (hF.gw.rg.live hl)⟩, fun b hb => by rw [e1]; exact .inl (hsub b hb), by rw [e1]; exact hF.gw.rows, fun b hb => ?_, fun b hb => ?_⟩
    · have := live_lt hl; have := hF.gw.rg.size; omega
    · have h1 := live_lt hl
      have h2 := hF.new
      have h3 : Wg = N := by cases e; rfl
      omega
    · have h3 := hgr.size
      rw [e1] at hb
      rcases hb with (hb | hb) | hb
      · have := hF.gw.bd b (.inl hb); omega
      · exact hb.2
      · have := hF.gw.bd b (.inr hb); omega
    · rw [e1] at hb
      rcases hb with hb | hb
      · exact hF.gw.new b hb
      · exact .inr (Nat.le_trans hF.gw.rg.size hb.1)
  clear hK K hdg hgr hbl hF ho e1 hnew
  try walk_nrm
  replace hF : Gw ty Wg S y w y' w' ∧ Own 0 w' (.slice (some ⟨r, 0, none⟩) xs.length c') xs := ⟨gw, by simpa using ho2⟩
  refine t_op hT rfl (by rfl) (by first | decide | assumption) (by first | rfl | (rw [hro]; rfl)) (fun _ hR K hK => ?_)
  replace hF := And.intro (hF.1.rely hR) (hF.2.heap (hR.keep r (.inl hm)))
  clear hR
  go_simp
  try (unfold stored; go_simp)
  try go_ints
  refine hK _ _ y' (by rw [listed_nil (by simp [go_sem, *])]; exact hT.idle _ _) ?_
  clear hK K
  try walk_nrm
  repeat (first | refine t_seq hT ?_ | refine t_block hT ?_ | refine t_skip hT ?_ | refine t_inBlock hT ?_ | refine t_rend hT ?_ | refine t_exit hT rfl ?_)
  refine t_ret hT rfl rfl rfl Try.func61 (resultsC_tmp (by rfl) _) (hc _ _ _ ?_)
  exact ⟨r, c', by simp, hF.2, hm, hge, hF.1⟩
end

end Go.Proofs.Ytkbfcaaihellfaa
