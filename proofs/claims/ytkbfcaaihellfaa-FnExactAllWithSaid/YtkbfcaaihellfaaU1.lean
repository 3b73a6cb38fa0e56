/- Steps on the way to the law; each part says what it proves. -/
import Derived.Conc.CrowdRun
import Derived.Conc.TokenTrace
import Derived.Conc.TokenWalk
import Derived.Conc.CompanyMem
import Derived.AtR

set_option linter.unusedSimpArgs false

/- The trace's law where the families of places turn: places that nobody has touched become a worker's; at a meeting places pass from a worker to the starter; operations that touch nothing. No program in sight. -/
namespace Go.Proofs.Ytkbfcaaihellfaa
open Go.Conc Go.ConcN
set_option linter.unusedVariables false

section
variable {Sh : Loc → Prop} {Own Rd Own' Rd' : Nat → Loc → Prop} {t u : Trace} {j : Nat}

/-- Other families, the started workers' alike (all that starts later is free to turn). -/
theorem ct_refam (h : CT Sh Own Rd t j) (ho : ∀ k, 1 ≤ k → k ≤ j → ∀ l, Own' k l ↔ Own k l) (hr : ∀ k, 1 ≤ k → k ≤ j → ∀ l, Rd' k l ↔ Rd k l) : CT Sh Own' Rd' t j :=
  ⟨h.quiet, fun k k1 kj l hl => h.own k k1 kj l ((ho k k1 kj l).1 hl), fun k k1 kj l hl => h.rd k k1 kj l ((hr k k1 kj l).1 hl),
    fun l hs hl => h.free l hs fun k k1 kj => ⟨fun x => (hl k k1 kj).1 ((ho k k1 kj l).2 x), fun x => (hl k k1 kj).2 ((hr k k1 kj l).2 x)⟩,
    fun l hs hl => h.mine l hs fun k k1 kj x => hl k k1 kj ((ho k k1 kj l).2 x), h.nr, h.gs⟩
/-- Places that nobody has touched may become anybody's. -/
theorem ct_fresh (h : CT Sh Own Rd t j) (New : Loc → Prop) (hn : ∀ i a, touchAt t i = some a → ¬ New a.loc)
    (ho : ∀ k l, ¬ New l → (Own' k l ↔ Own k l)) (hr : ∀ k l, ¬ New l → (Rd' k l ↔ Rd k l)) : CT Sh Own' Rd' t j := by
  have hnt : ∀ {l} g, New l → Perm t g l := fun g hl i a ha e => absurd (e ▸ hl) (hn i a ha)
  refine ⟨h.quiet, fun k k1 kj l hl => ?_, fun k k1 kj l hl => ?_, fun l hs hl => ?_, fun l hs hl => ?_, h.nr, h.gs⟩
  · by_cases e : New l
    · exact hnt k e
    · exact h.own k k1 kj l ((ho k l e).1 hl)
  · by_cases e : New l
    · exact .of (hnt k e)
    · exact h.rd k k1 kj l ((hr k l e).1 hl)
  · by_cases e : New l
    · exact hnt 0 e
    · exact h.free l hs fun k k1 kj => ⟨fun x => (hl k k1 kj).1 ((ho k l e).2 x), fun x => (hl k k1 kj).2 ((hr k l e).2 x)⟩
  · by_cases e : New l
    · exact .of (hnt 0 e)
    · exact h.mine l hs fun k k1 kj x => hl k k1 kj ((ho k l e).2 x)
theorem touch_old {i : Nat} {a : Touch} (hu : ∀ op ∈ u, op.act.touch? = none) (h : touchAt (t ++ u) i = some a) : touchAt t i = some a := by
  obtain ⟨x, hx, hxa⟩ := touch_of h
  rcases getElem?_append_cases hx with ⟨_, hx'⟩ | ⟨_, hxu⟩
  · rw [touchAt_of hx']; exact hxa
  · rw [hu x hxu] at hxa; cases hxa
/-- Operations that touch nothing, whoever's. -/
theorem ct_mute (h : CT Sh Own Rd t j) (hu : ∀ op ∈ u, op.act.touch? = none) (hg : ∀ op ∈ u, op.g ≤ j) : CT Sh Own Rd (t ++ u) j := by
  have no : ∀ {P : Prop}, ∀ op ∈ u, ∀ b, op.act.touch? = some b → P := fun op hop b hb => by rw [hu op hop] at hb; cases hb
  refine ⟨h.quiet.app fun op hop x hx => no op hop x hx, fun k k1 kj l hl => (h.own k k1 kj l hl).app fun op hop b hb => no op hop b hb, fun k k1 kj l hl => (h.rd k k1 kj l hl).app fun op hop b hb => no op hop b hb,
    fun l hs hl => (h.free l hs hl).app fun op hop b hb => no op hop b hb, fun l hs hl => (h.mine l hs hl).app fun op hop b hb => no op hop b hb, fun said => noRace_appendMute (h.nr said) hu, fun i op hi => ?_⟩
  rcases getElem?_append_cases hi with ⟨_, hi'⟩ | ⟨_, hiu⟩
  · exact h.gs i op hi'
  · exact hg op hiu
/-- A MEETING: worker k's send is met by the starter's receive: of worker k's places those of L pass to the starter. -/
theorem ct_give (h : CT Sh Own Rd t j) {k : Nat} (k1 : 1 ≤ k) (kj : k ≤ j) (d0 : Deaf t 0 = 0) (dk : Deaf t k = 0) (A : Apart Sh Own Rd) (L : Loc → Prop) (hL : ∀ l, L l → Own k l)
    (ho : ∀ k' l, Own' k' l ↔ Own k' l ∧ ¬ L l) (fh : FuncId) (ph : String) (fj : FuncId) (pj : String) (c s cap : Nat) : CT Sh Own' Rd (t ++ met k 0 fh ph fj pj c s cap) j := by
  have hm := met_mute k 0 fh ph fj pj c s cap
  have hb := ct_mute h (u := met k 0 fh ph fj pj c s cap) hm (fun op hop => by
    simp only [met, List.mem_toArray, List.mem_cons, List.not_mem_nil, or_false] at hop
    rcases hop with rfl | rfl | rfl | rfl <;> simp [kj])
  have e0 : (t ++ met k 0 fh ph fj pj c s cap)[t.size]? = some { g := k, fn := fh, pos := ph, act := .send c s } := by simp [met]
  have e3 : (t ++ met k 0 fh ph fj pj c s cap)[t.size + 3]? = some { g := 0, fn := fj, pos := pj, act := .recvDone c s } := by simp [met]
  have edge : HappensBefore (t ++ met k 0 fh ph fj pj c s cap) t.size (t.size + 3) :=
    Relation.TransGen.single (.inr ⟨.handOver (act?_of e0) (act?_of e3), ⟨k, by simp [Trace.g?, e0], by rw [deaf_old (Nat.le_refl _)]; exact dk⟩, ⟨0, by simp [Trace.g?, e3], by rw [deaf_quiet (met_quiet k 0 fh ph fj pj c s cap 0) 3 (by simp [met])]; exact d0⟩⟩)
  have given : ∀ l, L l → Perm (t ++ met k 0 fh ph fj pj c s cap) 0 l := fun l hl i a ha e => by
    have := h.own k k1 kj l (hL l hl) i a (touch_old hm ha) e
    exact ⟨t.size + 3, _, e3, rfl, .inr ((this.hb_new (Nat.le_refl _) e0 rfl).trans edge)⟩
  refine ⟨hb.quiet, fun k' k1' kj' l hl => hb.own k' k1' kj' l ((ho k' l).1 hl).1, hb.rd, fun l hs hl => ?_, fun l hs hl => ?_, hb.nr, hb.gs⟩
  · by_cases e : L l
    · exact given l e
    · exact hb.free l hs fun k' k1' kj' => ⟨fun x => (hl k' k1' kj').1 ((ho k' l).2 ⟨x, e⟩), (hl k' k1' kj').2⟩
  · by_cases e : L l
    · exact .of (given l e)
    · exact hb.mine l hs fun k' k1' kj' x => hl k' k1' kj' ((ho k' l).2 ⟨x, e⟩)
end

end Go.Proofs.Ytkbfcaaihellfaa

/- Goroutines that make memory of their own: what each suffers (RM), what each does (GM), and where it stops: an allocation (AtNew), a send (AtSendW), a close (AtCloseW), a receive (AtRecvM), a go statement. No program in sight. -/
namespace Go.Proofs.Ytkbfcaaihellfaa
open Go.Conc Go.ConcN
open Go.ConcR (KK wgBlock WgAt stA smA rd wr mk Payload Aside2 DC0)
set_option linter.unusedVariables false
set_option linter.unusedSectionVars false

def blk : Loc → Nat
  | .cell a => a.block
  | .obj r => r
  | _ => 0

/-! ### how far it is from its stop: a tree, so that no count need be the same in all worlds -/
inductive Tr where
  | leaf
  | mk (f : World → Tr)
def Sub (a b : Tr) : Prop := ∃ f w, b = .mk f ∧ a = f w
theorem sub_acc : ∀ b : Tr, Acc Sub b
  | .leaf => ⟨_, fun _ ⟨_, _, h, _⟩ => by cases h⟩
  | .mk f => ⟨_, fun _ ⟨g, w, h, e⟩ => by cases h; subst e; exact sub_acc (f w)⟩
/-- One tree of a row of trees is cut. -/
inductive LtL : List Tr → List Tr → Prop
  | head {a b : Tr} {l : List Tr} : Sub a b → LtL (a :: l) (b :: l)
  | tail {a : Tr} {l l' : List Tr} : LtL l' l → LtL (a :: l') (a :: l)
theorem ltL_acc : ∀ l : List Tr, Acc LtL l
  | [] => ⟨_, fun _ h => by cases h⟩
  | b :: l => by
    have hb := sub_acc b
    have hl := ltL_acc l
    induction hb generalizing l with
    | intro b _ ihb =>
      induction hl with
      | intro l hl' ihl =>
        refine ⟨_, fun x h => ?_⟩
        cases h with
        | head h => exact ihb _ h l ⟨_, hl'⟩
        | tail h => exact ihl _ h
def lst : Nat → (Nat → Tr) → List Tr
  | 0, _ => []
  | j + 1, φ => φ j :: lst j φ
theorem lst_congr {φ ψ : Nat → Tr} : ∀ {j : Nat}, (∀ i, i < j → φ i = ψ i) → lst j φ = lst j ψ
  | 0, _ => rfl
  | j + 1, h => by unfold lst; rw [h j (by omega), lst_congr fun i hi => h i (by omega)]
theorem lst_lt {φ ψ : Nat → Tr} {i : Nat} (h : Sub (ψ i) (φ i)) (ho : ∀ k, k ≠ i → ψ k = φ k) : ∀ {j : Nat}, i < j → LtL (lst j ψ) (lst j φ)
  | j + 1, hi => by
    unfold lst
    by_cases e : i = j
    · subst e
      rw [lst_congr fun k hk => ho k (by omega)]
      exact .head h
    · rw [ho j (by omega)]
      exact .tail (lst_lt h ho (by omega))

section
variable [Payload]

/-- What a goroutine suffers that leans on the blocks of M: they stand; memory grows; the group stays one. -/
structure RM (ty : TypeId) (Wg : Nat) (M : Nat → Prop) (w w₁ : World) : Prop where
  keep : ∀ b, M b → w₁.heap[b]? = w.heap[b]?
  size : w.heap.size ≤ w₁.heap.size
  live : WgLive ty Wg w → WgLive ty Wg w₁
theorem RM.refl {ty : TypeId} {Wg : Nat} {M : Nat → Prop} (w : World) : RM ty Wg M w w := ⟨fun _ _ => rfl, Nat.le_refl _, id⟩
theorem RM.trans {ty : TypeId} {Wg : Nat} {M : Nat → Prop} {w w₁ w₂ : World} (h : RM ty Wg M w w₁) (k : RM ty Wg M w₁ w₂) : RM ty Wg M w w₂ :=
  ⟨fun b hb => (k.keep b hb).trans (h.keep b hb), Nat.le_trans h.size k.size, k.live ∘ h.live⟩
theorem RM.at {ty : TypeId} {Wg : Nat} {M : Nat → Prop} (w : World) (d : Nat) : RM ty Wg M w (w.at d) := ⟨fun _ _ => rfl, Nat.le_refl _, id⟩
theorem RM.mono {ty : TypeId} {Wg : Nat} {M M' : Nat → Prop} {w w₁ : World} (h : RM ty Wg M w w₁) (hm : ∀ b, M' b → M b) : RM ty Wg M' w w₁ := ⟨fun b hb => h.keep b (hm b hb), h.size, h.live⟩

/-- A touch of a block of its own; a read of one of S; the mark that asks for room. -/
def EvM (M S : Nat → Prop) (e : Event) : Prop :=
  (∃ a : Addr, e.loc = .cell a ∧ (M a.block ∨ (S a.block ∧ e.write = false))) ∨ (∃ r : Nat, e.loc = .obj r ∧ e.sync = false ∧ M r) ∨ e = ⟨.mark .noRoom, false, true⟩
theorem EvM.mono {M M' S S' : Nat → Prop} {e : Event} (h : EvM M S e) (hm : ∀ b, M b → M' b) (hs : ∀ b, S b → S' b) : EvM M' S' e := by
  rcases h with ⟨a, h1, h3⟩ | ⟨r, h1, h2, h3⟩ | h
  · exact .inl ⟨a, h1, h3.imp (hm _) fun h => ⟨hs _ h.1, h.2⟩⟩
  · exact .inr (.inl ⟨r, h1, h2, hm _ h3⟩)
  · exact .inr (.inr h)
/-- What is said of a cell of the group's. -/
def EvSaid (Wg : Nat) (e : Event) : Prop := ∃ a : Addr, a.block = Wg ∧ (e = ⟨.mark (.read a), false, true⟩ ∨ e = ⟨.mark (.write a), false, true⟩)
/-- What it does in one step: blocks of its own alone turn; what is made is its own. -/
structure GN (main : Bool) (Wg : Nat) (M S : Nat → Prop) (w w' : World) (es : Array Event) : Prop where
  keep : ∀ b, ¬ M b → b < w.heap.size → w'.heap[b]? = w.heap[b]?
  size : w.heap.size ≤ w'.heap.size
  tape : w'.tape = w.tape
  os : w'.os = w.os
  output : w'.output = w.output
  evs : ∀ e ∈ es, EvM M S e ∨ (main = true ∧ EvSaid Wg e)
theorem GN.none {main : Bool} {Wg : Nat} {M S : Nat → Prop} (w : World) : GN main Wg M S w w #[] := ⟨fun _ _ _ => rfl, Nat.le_refl _, rfl, rfl, rfl, by simp⟩
/-- .. its own blocks behind it. -/
def more (M : Nat → Prop) (w w' : World) : Nat → Prop := fun b => M b ∨ (w.heap.size ≤ b ∧ b < w'.heap.size)
theorem more_same {M : Nat → Prop} {w w' : World} (h : w'.heap.size = w.heap.size) : more M w w' = M := by
  funext b; unfold more; rw [h]; exact propext ⟨fun x => x.elim id fun x => by omega, .inl⟩

/-- IT IS ON ITS WAY TO A STOP. -/
def Way (P : Program) (main : Bool) (ty : TypeId) (Wg : Nat) (S : Nat → Prop) (Stop : (Nat → Prop) → Goroutine → World → Prop) : Tr → (Nat → Prop) → Goroutine → World → Prop
  | .leaf, M, g, w => ∀ w₁, RM ty Wg (fun b => M b ∨ S b) w w₁ → Stop M g w₁
  | .mk f, M, g, w => (∀ w₁, RM ty Wg (fun b => M b ∨ S b) w w₁ → Stop M g w₁) ∨
      (g.status = .running ∧ ∀ w₁, RM ty Wg (fun b => M b ∨ S b) w w₁ → ∃ g' w' es, stepG P main g w₁ = .go g' w' es ∧ GN main Wg M S w₁ w' es ∧ Way P main ty Wg S Stop (f w₁) (more M w₁ w') g' w')

section
variable {P : Program} {main : Bool} {ty : TypeId} {Wg : Nat} {S : Nat → Prop} {Stop Stop' : (Nat → Prop) → Goroutine → World → Prop} {f : Tr} {M : Nat → Prop} {g : Goroutine} {w w₁ : World}

theorem Way.rely (h : Way P main ty Wg S Stop f M g w) (r : RM ty Wg (fun b => M b ∨ S b) w w₁) : Way P main ty Wg S Stop f M g w₁ := by
  cases f with
  | leaf => exact fun w₂ h₂ => h w₂ (r.trans h₂)
  | mk f => exact h.imp (fun h w₂ h₂ => h w₂ (r.trans h₂)) fun h => ⟨h.1, fun w₂ h₂ => h.2 w₂ (r.trans h₂)⟩
theorem Way.stop (h : ∀ w₁, RM ty Wg (fun b => M b ∨ S b) w w₁ → Stop M g w₁) : Way P main ty Wg S Stop .leaf M g w := h
open Classical in
theorem Way.step (hr : g.status = .running) (h : ∀ w₁, RM ty Wg (fun b => M b ∨ S b) w w₁ → ∃ g' w' es, stepG P main g w₁ = .go g' w' es ∧ GN main Wg M S w₁ w' es ∧ ∃ f, Way P main ty Wg S Stop f (more M w₁ w') g' w') :
    ∃ f, Way P main ty Wg S Stop f M g w := by
  have h' : ∀ w₁, ∃ f, RM ty Wg (fun b => M b ∨ S b) w w₁ → ∃ g' w' es, stepG P main g w₁ = .go g' w' es ∧ GN main Wg M S w₁ w' es ∧ Way P main ty Wg S Stop f (more M w₁ w') g' w' := fun w₁ => by
    by_cases hw : RM ty Wg (fun b => M b ∨ S b) w w₁
    · obtain ⟨g', w', es, h1, h2, f, h3⟩ := h w₁ hw
      exact ⟨f, fun _ => ⟨g', w', es, h1, h2, h3⟩⟩
    · exact ⟨.leaf, fun h => absurd h hw⟩
  obtain ⟨f, hf⟩ := Classical.axiomOfChoice h'
  exact ⟨.mk f, .inr ⟨hr, hf⟩⟩
theorem Way.split (h : Way P main ty Wg S Stop f M g w) : Stop M g w ∨ (g.status = .running ∧ ∃ g' w' es, stepG P main g w = .go g' w' es ∧ GN main Wg M S w w' es ∧ ∃ f', Sub f' f ∧ Way P main ty Wg S Stop f' (more M w w') g' w') := by
  cases f with
  | leaf => exact .inl (h w (RM.refl w))
  | mk f =>
    rcases h with h | ⟨hr, h⟩
    · exact .inl (h w (RM.refl w))
    · obtain ⟨g', w', es, h1, h2, h3⟩ := h w (RM.refl w)
      exact .inr ⟨hr, g', w', es, h1, h2, _, ⟨f, w, rfl, rfl⟩, h3⟩
theorem Way.running (hs : ∀ M g w, Stop M g w → g.status = .running) (h : Way P main ty Wg S Stop f M g w) : g.status = .running := h.split.elim (hs _ _ _) (·.1)
theorem Way.stopMono (hs : ∀ M g w, Stop M g w → Stop' M g w) : ∀ {f : Tr} {M : Nat → Prop} {g : Goroutine} {w : World}, Way P main ty Wg S Stop f M g w → Way P main ty Wg S Stop' f M g w
  | .leaf, M, g, w, h => fun w₁ r => hs _ _ _ (h w₁ r)
  | .mk f, M, g, w, h => h.imp (fun h w₁ r => hs _ _ _ (h w₁ r)) fun h => ⟨h.1, fun w₁ r => let ⟨g', w', es, h1, h2, h3⟩ := h.2 w₁ r; ⟨g', w', es, h1, h2, Way.stopMono hs h3⟩⟩
end

/-! ### the stops -/
section
variable (P : Program) (ty : TypeId) (Wg C n LW : Nat) (Rw : List Int → Nat → Obj → Value → Prop)
def no : Nat → Loc → Prop := fun _ _ => False

/-- A WORKER AT ITS SEND: of its row xs, which lies in block r of its own; behind it that block is no longer its own. -/
def AtSendW (c : Nat) (xs : List Int) (K : (Nat → Prop) → Goroutine → World → Prop) (M : Nat → Prop) (g : Goroutine) (w : World) : Prop :=
  g.status = .running ∧ ∃ r o v, M r ∧ w.heap[r]? = some o ∧ Rw xs r o v ∧ ∃ g₂ z', (∀ d, stepG P false g (w.at d) = .comm g₂ #[scase c v z'] true .send (w.at d) #[]) ∧ K (fun b => M b ∧ b ≠ r) (Go.Conc.served g₂ undef) w
/-- A WORKER AT THE RELEASE IN ITS Done. -/
def AtRelW (c k : Nat) (g : Goroutine) (w : World) : Prop := g.status = .running ∧ (WgLive ty Wg w → Has C (k - 1) (.chan (some c)) w → AtR0 P ty Wg C n LW k (.chan (some c)) g w)
/-- A WORKER AT THE CLOSE OF ITS LANE; behind it: to its Done. -/
def AtCloseW (S : Nat → Prop) (c k : Nat) (M : Nat → Prop) (g : Goroutine) (w : World) : Prop :=
  g.status = .running ∧ mayWake P g = true ∧ ∃ g', g'.status = .running ∧ (∀ s, w.heap[c]? = some (.chan 0 #[] false s s false) → ∀ d, stepG P false g (w.at d) = .go g' ((w.at d).setChan c 0 #[] true s s false) (closeEvents c)) ∧
    ∀ w₁, RM ty Wg (fun b => M b ∨ S b) w w₁ → WgLive ty Wg w₁ → Has C (k - 1) (.chan (some c)) w₁ → ∃ m, Goes P false (RW ty Wg C n LW (k - 1)) DC0 (AtR0 P ty Wg C n LW k (.chan (some c))) m g' w₁
/-- THE WORKER's SCRIPT: rows to be sent; the close. -/
def WScr (S : Nat → Prop) (c k : Nat) : List (List Int) → (Nat → Prop) → Goroutine → World → Prop
  | [], M, g, w => ∃ f, Way P false ty Wg S (fun M g w => AtCloseW P ty Wg C n LW S c k M g w) f M g w
  | xs :: rest, M, g, w => ∃ f, Way P false ty Wg S (fun M g w => AtSendW P Rw c xs (fun M' g' w' => WScr S c k rest M' g' w') M g w) f M g w
/-- where it is on its way to -/
def WStop (S : Nat → Prop) (c k : Nat) : List (List Int) → (Nat → Prop) → Goroutine → World → Prop
  | [], M, g, w => AtCloseW P ty Wg C n LW S c k M g w
  | xs :: rest, M, g, w => AtSendW P Rw c xs (fun M' g' w' => WScr P ty Wg C n LW Rw S c k rest M' g' w') M g w
theorem WScr.way {S : Nat → Prop} {c k : Nat} : ∀ {L : List (List Int)} {M : Nat → Prop} {g : Goroutine} {w : World}, WScr P ty Wg C n LW Rw S c k L M g w → ∃ f, Way P false ty Wg S (WStop P ty Wg C n LW Rw S c k L) f M g w
  | [], _, _, _, h => h
  | _ :: _, _, _, _, h => h

/-- It stands at a receive on lane c (and would again, let try anew). -/
def AtRecv (c : Nat) (g g₂ : Goroutine) (z : Value) (w : World) : Prop := g.status = .running ∧ g₂.status = .running ∧ (∀ w, stepG P true g₂ w = stepG P true g w) ∧ ∀ d, stepG P true g (w.at d) = .comm g₂ #[rcase c z] true (.recv true) (w.at d) #[]
/-- a row has come -/
def RowK (S : Nat → Prop) (xs : List Int) (K : (Nat → Prop) → Goroutine → World → Prop) (M : Nat → Prop) (g₂ : Goroutine) (w : World) : Prop :=
  ∀ r o v w', ¬ (M r ∨ S r) → Rw xs r o v → w'.heap[r]? = some o → (∀ b, M b ∨ S b → w'.heap[b]? = w.heap[b]?) → w.heap.size ≤ w'.heap.size → (WgLive ty Wg w → WgLive ty Wg w') → K (fun b => M b ∨ b = r) (Go.Conc.served g₂ (recvd true v true)) w'
/-- THE STARTER at a receive on lane c: the next row comes, or the lane is closed. -/
def RStop (S : Nat → Prop) (c : Nat) : List (List Int) → ((Nat → Prop) → Goroutine → World → Prop) → (Nat → Prop) → Goroutine → World → Prop
  | [], K, M, g, w => ∃ g₂ z, ∀ w₁, RM ty Wg (fun b => M b ∨ S b) w w₁ → AtRecv P c g g₂ z w₁ ∧ K M (Go.Conc.served g₂ (recvd true z false)) w₁
  | xs :: L, K, M, g, w => ∃ g₂ z, ∀ w₁, RM ty Wg (fun b => M b ∨ S b) w w₁ → AtRecv P c g g₂ z w₁ ∧ RowK ty Wg Rw S xs (fun M' g' w' => ∃ f, Way P true ty Wg S (RStop S c L K) f M' g' w') M g₂ w₁
def RAft (S : Nat → Prop) (c : Nat) : List (List Int) → ((Nat → Prop) → Goroutine → World → Prop) → (Nat → Prop) → Goroutine → Value → World → Prop
  | [], K, M, g₂, z, w => K M (Go.Conc.served g₂ (recvd true z false)) w
  | xs :: L, K, M, g₂, z, w => RowK ty Wg Rw S xs (fun M' g' w' => ∃ f, Way P true ty Wg S (RStop P ty Wg Rw S c L K) f M' g' w') M g₂ w
theorem rstop_iff {S : Nat → Prop} {c : Nat} {L : List (List Int)} {K : (Nat → Prop) → Goroutine → World → Prop} {M : Nat → Prop} {g : Goroutine} {w : World} :
    RStop P ty Wg Rw S c L K M g w ↔ ∃ g₂ z, ∀ w₁, RM ty Wg (fun b => M b ∨ S b) w w₁ → AtRecv P c g g₂ z w₁ ∧ RAft P ty Wg Rw S c L K M g₂ z w₁ := by
  cases L <;> exact Iff.rfl
def MLane (S : Nat → Prop) (c : Nat) (L : List (List Int)) (K : (Nat → Prop) → Goroutine → World → Prop) (M : Nat → Prop) (g : Goroutine) (w : World) : Prop := ∃ f, Way P true ty Wg S (RStop P ty Wg Rw S c L K) f M g w
/-- THE STARTER's SCRIPT behind the last go statement: the lanes, each with the rows that are still to come; then Door. -/
def MRg (S : Nat → Prop) (Door : (Nat → Prop) → Goroutine → World → Prop) : List (Nat × List (List Int)) → (Nat → Prop) → Goroutine → World → Prop
  | [], M, g, w => Door M g w
  | (c, L) :: rest, M, g, w => MLane P ty Wg Rw S c L (fun M' g' w' => MRg S Door rest M' g' w') M g w
end
end

end Go.Proofs.Ytkbfcaaihellfaa

/- A goroutine's own steps, whatever it is on its way to: rules for a family of predicates that is closed under own steps (no counts). No program in sight. -/
namespace Go.Proofs.Ytkbfcaaihellfaa
open Go.Conc Go.ConcN
set_option linter.unusedVariables false
set_option linter.unusedSectionVars false

/-- A family of predicates on a goroutine and the world (y: what is known of it besides) THAT IS CLOSED UNDER OWN STEPS: ahead of each the others may have turned the world (R); of each step D is asked. -/
structure Clo (P : Program) (main : Bool) {γ : Type} (R : γ → World → World → Prop) (D : γ → World → World → Array Event → γ → Prop) (T : γ → Goroutine → World → Prop) : Prop where
  rely : ∀ {y : γ} {g : Goroutine} {w w₁ : World}, T y g w → R y w w₁ → T y g w₁
  step : ∀ {y : γ} {g : Goroutine} {w : World}, g.status = .running → (∀ w₁, R y w w₁ → ∃ g' w' es y', stepG P main g w₁ = .go g' w' es ∧ D y w₁ w' es y' ∧ T y' g' w') → T y g w
  idle : ∀ (y : γ) (w : World), D y w w #[] y
  draw : ∀ (y : γ) (w : World), D y w { w with drawn := w.drawn + 1 } #[] y

section
variable {P : Program} {main : Bool} {γ : Type} {R : γ → World → World → Prop} {D : γ → World → World → Array Event → γ → Prop} {T : γ → Goroutine → World → Prop}
variable {b : Frame} {a : Act} {k : List Item} {cs : List Frame} {y : γ} {w : World} {ops : Array Oper}

theorem Clo.ctl (hT : Clo P main R D T) {g g' : Goroutine} (hs : g.status = .running) (h : ∀ w, stepG P main g w = .go g' w #[]) (ht : T y g' w) : T y g w :=
  hT.step hs fun w₁ r => ⟨g', w₁, #[], y, h w₁, hT.idle _ _, hT.rely ht r⟩

/-! ### moves of control -/
theorem t_skip (hT : Clo P main R D T) (h : T y (G (b.atR a k) cs) w) : T y (G (b.atR a (.code .skip :: k)) cs) w := hT.ctl rfl (fun w => by simp [G, stepG, stepG.exec, Frame.atR]) h
theorem t_label (hT : Clo P main R D T) {l : Nat} (h : T y (G (b.atR a k) cs) w) : T y (G (b.atR a (.code (.label l) :: k)) cs) w := hT.ctl rfl (fun w => by simp [G, stepG, stepG.exec, Frame.atR]) h
theorem t_inBlock (hT : Clo P main R D T) {id : Nat} (h : T y (G (b.atR a k) cs) w) : T y (G (b.atR a (.inBlock id :: k)) cs) w := hT.ctl rfl (fun w => by simp [G, stepG, stepG.exec, Frame.atR]) h
theorem t_seq (hT : Clo P main R D T) {x z : Code} (h : T y (G (b.atR a (.code x :: .code z :: k)) cs) w) : T y (G (b.atR a (.code (.seq x z) :: k)) cs) w := hT.ctl rfl (fun w => by simp [G, stepG, stepG.exec, Frame.atR]) h
theorem t_block (hT : Clo P main R D T) {id : Nat} {c : Code} (h : T y (G (b.atR a (.code c :: .inBlock id :: k)) cs) w) : T y (G (b.atR a (.code (.block id c) :: k)) cs) w := hT.ctl rfl (fun w => by simp [G, stepG, stepG.exec, Frame.atR]) h
theorem t_loop1 (hT : Clo P main R D T) {c : Code} (h : T y (G (b.atR a (.code c :: .inLoop c :: k)) cs) w) : T y (G (b.atR a (.code (.loop c) :: k)) cs) w := hT.ctl rfl (fun w => by simp [G, stepG, stepG.exec, Frame.atR]) h
theorem t_inLoop (hT : Clo P main R D T) {c : Code} (h : T y (G (b.atR a (.code c :: .inLoop c :: k)) cs) w) : T y (G (b.atR a (.inLoop c :: k)) cs) w := hT.ctl rfl (fun w => by simp [G, stepG, stepG.exec, Frame.atR]) h
theorem t_exit (hT : Clo P main R D T) {id : Nat} {k' : List Item} (he : exitTo id k = some k') (h : T y (G (b.atR a k') cs) w) : T y (G (b.atR a (.code (.exit id) :: k)) cs) w := hT.ctl rfl (fun w => by simp [G, stepG, stepG.exec, Frame.atR, he]) h
theorem t_cond (hT : Clo P main R D T) {c : Operand} {x z : Code} {t : Bool} (hc : a.eval c = .bool t) (h : T y (G (b.atR a (.code (if t then x else z) :: k)) cs) w) : T y (G (b.atR a (.code (.cond c x z) :: k)) cs) w := by
  have he := congrFun (Frame.eval_atR b a (.code (.cond c x z) :: k)) c
  simp only [Frame.atR] at he
  exact hT.ctl rfl (fun w => by simp [G, stepG, stepG.exec, Frame.atR, he, hc]) h
theorem t_region (hT : Clo P main R D T) {id : Nat} (l : List Nat) (hl : List.range ops.size = l) (h : T y (G (b.atR a (.inRegion ops l :: k)) cs) w) : T y (G (b.atR a (.code (.region id ops false) :: k)) cs) w := by
  subst hl
  exact hT.ctl rfl (fun w => by simp [G, stepG, stepG.exec, Frame.atR]) h
theorem t_rend (hT : Clo P main R D T) (h : T y (G (b.atR a k) cs) w) : T y (G (b.atR a (.inRegion ops [] :: k)) cs) w := hT.ctl rfl (fun w => by simp [G, stepG, stepG.exec, Frame.atR]) h
theorem t_draw (hT : Clo P main R D T) {id : Nat} (h : ∀ w₁, R y w w₁ → ∀ t, T y (G (b.atR a (.inRegion ops (Region.schedule (P.follows .mixedOrders) ops t) :: k)) cs) { w₁ with drawn := w₁.drawn + 1 }) : T y (G (b.atR a (.code (.region id ops true) :: k)) cs) w :=
  hT.step rfl fun w₁ r => ⟨_, _, #[], y, by simp [G, stepG, stepG.exec, Frame.atR, choose, Sem.run, Question.forced, Question.cut], hT.draw _ _, h w₁ r (w₁.tape w₁.drawn (.order b.fn id))⟩
/-- A LOOP. -/
theorem t_loop (hT : Clo P main R D T) {c : Code} (I : Act → γ → World → Prop) (μ : Act → γ → World → Nat) (h0 : I a y w)
    (round : ∀ a y w, I a y w → (∀ a' y' w', I a' y' w' → μ a' y' w' < μ a y w → T y' (G (b.atR a' (.inLoop c :: k)) cs) w') → T y (G (b.atR a (.code c :: .inLoop c :: k)) cs) w) : T y (G (b.atR a (.code (.loop c) :: k)) cs) w := by
  have key : ∀ n a y w, μ a y w ≤ n → I a y w → T y (G (b.atR a (.code c :: .inLoop c :: k)) cs) w := by
    intro n
    induction n with
    | zero => exact fun a y w hn hi => round a y w hi fun a' y' w' _ hlt => absurd hlt (by omega)
    | succ n ih => exact fun a y w hn hi => round a y w hi fun a' y' w' hi' hlt => t_inLoop hT (ih a' y' w' (by omega) hi')
  exact t_loop1 hT (key _ a y w (Nat.le_refl _) h0)

/-! ### one operation -/
theorem sG_op {i : Nat} {rest : List Nat} {o : Oper} (ho : ops[i]? = some o) (hw : Region.wanted o (yielded ops a.tmps) = true) (hs : o.semAt b.roundOf a.eval = execOp a.eval o) :
    stepG P main (G (b.atR a (.inRegion ops (i :: rest) :: k)) cs) w = stepG.apply P true (b.atR a (.inRegion ops (i :: rest) :: k)) cs none (execOp a.eval o) w := by
  have he := Frame.eval_atR b a (.inRegion ops (i :: rest) :: k)
  have key : stepG P main (G (b.atR a (.inRegion ops (i :: rest) :: k)) cs) w = stepG.apply P true (b.atR a (.inRegion ops (i :: rest) :: k)) cs none (o.semAt b.roundOf a.eval) w := by
    rw [← he]
    have h1 : stepG P main (G (b.atR a (.inRegion ops (i :: rest) :: k)) cs) w = stepG.oper P true (b.atR a (.inRegion ops (i :: rest) :: k)) cs none w := by
      simp [G, stepG, stepG.exec, Frame.atR, ho, hw]
    have h2 : (b.atR a (.inRegion ops (i :: rest) :: k)).oper? = some o := by simp [Frame.oper?, Frame.atR, ho]
    rw [h1]
    unfold stepG.oper Oper.semAt
    rw [h2]
    have h3 : (b.atR a (.inRegion ops (i :: rest) :: k)).roundOf = b.roundOf := rfl
    rw [h3]
    cases b.roundOf with
    | none => rfl
    | some l => cases o with | mk dst op type pos after guard => cases op <;> rfl
  rw [key, hs]
theorem sG_value {i : Nat} {rest : List Nat} {o : Oper} {v : Value} {w' : World} (ho : ops[i]? = some o) (hw : Region.wanted o (yielded ops a.tmps) = true) (hk : b.kind ≠ .early) (hs : o.semAt b.roundOf a.eval = execOp a.eval o)
    (hr : (execOp a.eval o).run P w = .ok (.value v) w') : stepG P main (G (b.atR a (.inRegion ops (i :: rest) :: k)) cs) w = .go (G (b.atR (a.put o.dst v) (.inRegion ops rest :: k)) cs) w' (listed P b.fn a o w) := by
  have hfin : (b.atR a (.inRegion ops (i :: rest) :: k)).finish v = b.atR (a.put o.dst v) (.inRegion ops rest :: k) := by rw [Frame.finish_atR, ho]; rfl
  have hk' : (b.kind == CallKind.early) = false := by simpa using hk
  rw [sG_op ho hw hs, ← hfin]
  simp [stepG.apply, hr, G, Frame.atR, hk', GStep.after, listed]
theorem sG_none {i : Nat} {rest : List Nat} {o : Oper} {w' : World} (ho : ops[i]? = some o) (hw : Region.wanted o (yielded ops a.tmps) = true) (hk : b.kind ≠ .early) (hs : o.semAt b.roundOf a.eval = execOp a.eval o)
    (hr : (execOp a.eval o).run P w = .ok .skip w') : stepG P main (G (b.atR a (.inRegion ops (i :: rest) :: k)) cs) w = .go (G (b.atR (a.put o.dst undef) (.inRegion ops rest :: k)) cs) w' (listed P b.fn a o w) := by
  have hfin : (b.atR a (.inRegion ops (i :: rest) :: k)).finish undef = b.atR (a.put o.dst undef) (.inRegion ops rest :: k) := by rw [Frame.finish_atR, ho]; rfl
  have hk' : (b.kind == CallKind.early) = false := by simpa using hk
  rw [sG_op ho hw hs, ← hfin]
  simp [stepG.apply, hr, G, Frame.atR, hk', GStep.after, listed]
theorem sG_comm {i : Nat} {rest : List Nat} {o : Oper} {cases : Array CommCase} {blocking : Bool} {shape : CommShape} {w' : World} (ho : ops[i]? = some o) (hw : Region.wanted o (yielded ops a.tmps) = true) (hk : b.kind ≠ .early) (hs : o.semAt b.roundOf a.eval = execOp a.eval o)
    (hr : (execOp a.eval o).run P w = .ok (.comm cases blocking shape) w') :
    stepG P main (G (b.atR a (.inRegion ops (i :: rest) :: k)) cs) w = .comm (G (b.atR a (.inRegion ops (i :: rest) :: k)) cs) cases blocking shape w' (listed P b.fn a o w) := by
  have hk' : (b.kind == CallKind.early) = false := by simpa using hk
  rw [sG_op ho hw hs]
  simp [stepG.apply, hr, G, Frame.atR, hk', GStep.after, listed]
theorem sG_enter {i : Nat} {rest : List Nat} {o : Oper} {f : FuncId} {args : Array Value} {w' : World} (ho : ops[i]? = some o) (hw : Region.wanted o (yielded ops a.tmps) = true) (hk : b.kind ≠ .early) (hs : o.semAt b.roundOf a.eval = execOp a.eval o)
    (hr : (execOp a.eval o).run P w = .ok (.enter f args) w') :
    stepG P main (G (b.atR a (.inRegion ops (i :: rest) :: k)) cs) w = .go (G (Frame.enter P f args .normal) (b.atR a (.inRegion ops (i :: rest) :: k) :: cs)) w' (listed P b.fn a o w) := by
  have hk' : (b.kind == CallKind.early) = false := by simpa using hk
  rw [sG_op ho hw hs]
  simp [stepG.apply, hr, G, Frame.atR, hk', GStep.after, listed]
theorem sG_round {i : Nat} {rest : List Nat} {o : Oper} {l : Nat} {f : FuncId} {tmps : Array Value} {assign body : Code} {w' : World} (ho : ops[i]? = some o) (hw : Region.wanted o (yielded ops a.tmps) = true) (hk : b.kind ≠ .early) (hs : o.semAt b.roundOf a.eval = execOp a.eval o)
    (hr : (execOp a.eval o).run P w = .ok (.round l f tmps assign body) w') :
    stepG P main (G (b.atR a (.inRegion ops (i :: rest) :: k)) cs) w = .go (G (Frame.round l f tmps assign body .normal) (b.atR a (.inRegion ops (i :: rest) :: k) :: cs)) w' (listed P b.fn a o w) := by
  have hk' : (b.kind == CallKind.early) = false := by simpa using hk
  rw [sG_op ho hw hs]
  simp [stepG.apply, hr, G, Frame.atR, hk', GStep.after, listed]

/-- ONE OPERATION: here the company is met. -/
theorem t_op (hT : Clo P main R D T) {i : Nat} {rest : List Nat} {o : Oper} (ho : ops[i]? = some o) (hw : Region.wanted o (yielded ops a.tmps) = true) (hk : b.kind ≠ .early) (hs : o.semAt b.roundOf a.eval = execOp a.eval o)
    (h : ∀ w₁, R y w w₁ → ∀ K : Act → World → Prop, (∀ a' w' y', D y w₁ w' (listed P b.fn a o w₁) y' → T y' (G (b.atR a' (.inRegion ops rest :: k)) cs) w' → K a' w') → uponK o a K ((execOp a.eval o).run P w₁)) :
    T y (G (b.atR a (.inRegion ops (i :: rest) :: k)) cs) w := by
  refine hT.step rfl fun w₁ r => ?_
  have := h w₁ r (fun a' w' => ∃ y', D y w₁ w' (listed P b.fn a o w₁) y' ∧ T y' (G (b.atR a' (.inRegion ops rest :: k)) cs) w') (fun a' w' y' h1 h2 => ⟨y', h1, h2⟩)
  generalize hr : (execOp a.eval o).run P w₁ = res at this
  match res, this with
  | .ok (.value v) w', ⟨y', h1, h2⟩ => exact ⟨_, w', _, y', sG_value ho hw hk hs hr, h1, h2⟩
  | .ok .skip w', ⟨y', h1, h2⟩ => exact ⟨_, w', _, y', sG_none ho hw hk hs hr, h1, h2⟩
/-- .. that is not wanted. -/
theorem t_un (hT : Clo P main R D T) {i : Nat} {rest : List Nat} {o : Oper} (ho : ops[i]? = some o) (hw : Region.wanted o (yielded ops a.tmps) = false) (h : T y (G (b.atR (a.put o.dst undef) (.inRegion ops rest :: k)) cs) w) :
    T y (G (b.atR a (.inRegion ops (i :: rest) :: k)) cs) w := by
  have hfin : (b.atR a (.inRegion ops (i :: rest) :: k)).finish undef = b.atR (a.put o.dst undef) (.inRegion ops rest :: k) := by rw [Frame.finish_atR, ho]; rfl
  rw [← hfin] at h
  exact hT.ctl rfl (fun w => by simp [G, stepG, stepG.exec, Frame.atR, ho, hw]) h

/-! ### calls -/
/-- A CONTRACT: entered with these arguments, whoever called, f comes back with a value and in a world that satisfy Post. -/
def CallsT (P : Program) {γ : Type} (T : γ → Goroutine → World → Prop) (f : FuncId) (args : Array Value) (y : γ) (w : World) (Post : Value → γ → World → Prop) : Prop :=
  ∀ (c : Frame) (cs : List Frame), (∀ v y' w', Post v y' w' → T y' (G (c.finish v) cs) w') → T y (G (Frame.enter P f args .normal) (c :: cs)) w
theorem CallsT.mono {f : FuncId} {args : Array Value} {Post Post' : Value → γ → World → Prop} (h : CallsT P T f args y w Post) (hp : ∀ v y w, Post v y w → Post' v y w) : CallsT P T f args y w Post' :=
  fun c cs hc => h c cs fun v y' w' x => hc v y' w' (hp _ _ _ x)
theorem enter_atR {f : FuncId} {fn : Func} {c : Code} (args : Array Value) (hf : P.funcs[f]? = some fn) (hb : fn.body = some c) :
    Frame.enter P f args .normal = (base f).atR { tmps := args ++ Array.replicate (fn.ntmps - args.size) undef, defers := [] } [.code c] := by
  rw [enter_at args hf hb]; rfl
theorem callsT_of {f : FuncId} {fn : Func} {code : Code} {args : Array Value} {Post : Value → γ → World → Prop} (hf : P.funcs[f]? = some fn) (hb : fn.body = some code)
    (h : ∀ (c : Frame) (cs : List Frame), (∀ v y' w', Post v y' w' → T y' (G (c.finish v) cs) w') → T y (G ((base f).atR { tmps := args ++ Array.replicate (fn.ntmps - args.size) undef, defers := [] } [.code code]) (c :: cs)) w) : CallsT P T f args y w Post :=
  fun c cs hc => by rw [enter_atR args hf hb]; exact h c cs hc
/-- A call of a function by its name. -/
theorem t_call (hT : Clo P main R D T) {i : Nat} {rest : List Nat} {o : Oper} {f : FuncId} {fn : Func} {code : Code} {args : Array Operand} {ats : Array TypeId} {Post : Value → γ → World → Prop} (ho : ops[i]? = some o) (hw : Region.wanted o (yielded ops a.tmps) = true) (hk : b.kind ≠ .early) (hs : o.semAt b.roundOf a.eval = execOp a.eval o)
    (hop : o.op = .call { callee := .value (.func f), args, argTypes := ats }) (hf : P.funcs[f]? = some fn) (hname : (fn.name == "runtime.NumGoroutine") = false) (hb : fn.body = some code)
    (hcall : CallsT P T f (args.map a.eval) y w Post) (h : ∀ v y' w', Post v y' w' → T y' (G (b.atR (a.put o.dst v) (.inRegion ops rest :: k)) cs) w') : T y (G (b.atR a (.inRegion ops (i :: rest) :: k)) cs) w := by
  have hb' : fn.body.isNone = false := by rw [hb]; rfl
  refine hT.ctl (g' := G (Frame.enter P f (args.map a.eval) .normal) (b.atR a (.inRegion ops (i :: rest) :: k) :: cs)) rfl (fun w => ?_) (hcall _ cs fun v y' w' hp => ?_)
  · rw [sG_enter ho hw hk hs (run_call_body hop hf hname hb')]
    have : listed P b.fn a o w = #[] := by unfold listed; rw [events_call_body hop hf hname hb']; exact seen_none P _
    rw [this]
  · rw [Frame.finish_atR, ho]; exact h v y' w' hp
/-- A call of a function value. -/
theorem t_callv (hT : Clo P main R D T) {i : Nat} {rest : List Nat} {o : Oper} {f : FuncId} {args : Array Value} {Post : Value → γ → World → Prop} (ho : ops[i]? = some o) (hw : Region.wanted o (yielded ops a.tmps) = true) (hk : b.kind ≠ .early) (hs : o.semAt b.roundOf a.eval = execOp a.eval o)
    (hr : ∀ w, (execOp a.eval o).run P w = .ok (.enter f args) w) (he : ∀ w, (execOp a.eval o).events P w #[] = #[])
    (hcall : CallsT P T f args y w Post) (h : ∀ v y' w', Post v y' w' → T y' (G (b.atR (a.put o.dst v) (.inRegion ops rest :: k)) cs) w') : T y (G (b.atR a (.inRegion ops (i :: rest) :: k)) cs) w := by
  refine hT.ctl (g' := G (Frame.enter P f args .normal) (b.atR a (.inRegion ops (i :: rest) :: k) :: cs)) rfl (fun w => ?_) (hcall _ cs fun v y' w' hp => ?_)
  · rw [sG_enter ho hw hk hs (hr w)]
    have : listed P b.fn a o w = #[] := by unfold listed; rw [he w]; exact seen_none P _
    rw [this]
  · rw [Frame.finish_atR, ho]; exact h v y' w' hp
/-- The return to the caller. -/
theorem t_leave (hT : Clo P main R D T) {fn : Func} {todo : List Item} {c : Frame} {v : Value} (hro : b.roundOf = none) (hn : b.kind = .normal) (hd : a.defers = []) (hf : P.funcs[b.fn]? = some fn) (hr : ResultsC P fn a.tmps v) (h : T y (G (c.finish v) cs) w) :
    T y (G { b.atR a todo with mode := .returning } (c :: cs)) w :=
  hT.ctl rfl (fun w => by rw [Frame.atR_of_none hro]; exact stepG_leave hn hd hf (hr w).1 (hr w).2) h
theorem t_ret (hT : Clo P main R D T) {fn : Func} {c : Frame} {v : Value} (hro : b.roundOf = none) (hn : b.kind = .normal) (hd : a.defers = []) (hf : P.funcs[b.fn]? = some fn) (hr : ResultsC P fn a.tmps v) (h : T y (G (c.finish v) cs) w) :
    T y (G (b.atR a (.code .ret :: k)) (c :: cs)) w :=
  hT.ctl (g' := G { b.atR a (.code .ret :: k) with mode := .returning } (c :: cs)) rfl (fun w => by rw [Frame.atR_of_none hro]; exact stepG_ret') (t_leave hT hro hn hd hf hr h)
theorem t_end (hT : Clo P main R D T) {fn : Func} {c : Frame} {v : Value} (hro : b.roundOf = none) (hn : b.kind = .normal) (hd : a.defers = []) (hf : P.funcs[b.fn]? = some fn) (hr : ResultsC P fn a.tmps v) (h : T y (G (c.finish v) cs) w) :
    T y (G (b.atR a []) (c :: cs)) w :=
  hT.ctl (g' := G { b.atR a [] with mode := .returning } (c :: cs)) rfl (fun w => by rw [Frame.atR_of_none hro]; exact stepG_end) (t_leave hT hro hn hd hf hr h)

/-! ### a region that draws its order and only reads -/
/-- In state a operation o yields v and does nothing else, in every world that meets S. -/
def RdOp (P : Program) {γ : Type} (D : γ → World → World → Array Event → γ → Prop) (fn : FuncId) (ops : Array Oper) (y : γ) (S : World → Prop) (o : Oper) (v : Value) (a : Act) : Prop :=
  (Region.wanted o (yielded ops a.tmps) = true ∧ ∀ w, S w → (execOp a.eval o).run P w = .ok (.value v) w ∧ D y w w (listed P fn a o w) y) ∨ (Region.wanted o (yielded ops a.tmps) = false ∧ v = undef)
theorem RdOp.of_same {fn : FuncId} {S : World → Prop} {o : Oper} {v : Value} {a a' : Act} (h : RdOp P D fn ops y S o v a) (he : execOp a'.eval o = execOp a.eval o) (hw : Region.wanted o (yielded ops a'.tmps) = Region.wanted o (yielded ops a.tmps)) : RdOp P D fn ops y S o v a' := by
  unfold RdOp listed at *
  rw [he, hw]
  exact h
def AnyR (P : Program) {γ : Type} (D : γ → World → World → Array Event → γ → Prop) (fn : FuncId) (md : Region.Mode) (ops : Array Oper) (y : γ) (S : World → Prop) (Q : Act → Prop) : Nat → Array Bool → Act → Prop
  | 0, listed, a => Region.ready md ops listed = [] ∧ Q a
  | fuel + 1, listed, a => (Region.ready md ops listed = [] → Q a) ∧ ∀ i ∈ Region.ready md ops listed, ∃ o v, ops[i]? = some o ∧ RdOp P D fn ops y S o v a ∧ AnyR P D fn md ops y S Q fuel (listed.setIfInBounds i true) (a.put o.dst v)
theorem anyR_sound (hT : Clo P main R D T) {S : World → Prop} (hS : ∀ w w₁, S w → R y w w₁ → S w₁) (hk : b.kind ≠ .early) (hro : b.roundOf = none) {md : Region.Mode} :
    ∀ (fuel t : Nat) (listed : Array Bool) (a : Act), AnyR P D b.fn md ops y S (fun a => ∀ w, S w → T y (G (b.atR a k) cs) w) fuel listed a → ∀ w, S w → T y (G (b.atR a (.inRegion ops (Region.linearise.go md ops fuel t listed []) :: k)) cs) w := by
  intro fuel
  induction fuel with
  | zero => intro t listed a h w hw; exact t_rend hT (h.2 w hw)
  | succ fuel ih =>
    intro t listed a h w hw
    obtain ⟨h0, h1⟩ := h
    simp only [Region.linearise.go]
    change T y (G (b.atR a (.inRegion ops (match (Region.ready md ops listed)[t % (Region.ready md ops listed).length]? with
      | some i => Region.linearise.go md ops fuel (t / (Region.ready md ops listed).length) (listed.setIfInBounds i true) [i]
      | none => [].reverse) :: k)) cs) w
    cases hi : (Region.ready md ops listed)[t % (Region.ready md ops listed).length]? with
    | none =>
      have hnil : Region.ready md ops listed = [] := by
        cases hr : Region.ready md ops listed with
        | nil => rfl
        | cons x xs =>
          rw [hr] at hi
          have hlt : t % (x :: xs).length < (x :: xs).length := Nat.mod_lt _ (by simp)
          simp at hi
          simp at hlt
          omega
      exact t_rend hT (h0 hnil w hw)
    | some i =>
      simp only []
      rw [linearise_go_acc, List.reverse_singleton, List.singleton_append]
      obtain ⟨o, v, ho, hrd, hn⟩ := h1 i (List.mem_of_getElem? hi)
      have hs : ∀ c, o.op = .defer c → o.semAt b.roundOf a.eval = execOp a.eval o := fun _ _ => by rw [hro]; rfl
      rcases hrd with ⟨hwt, hv⟩ | ⟨hwt, rfl⟩
      · refine hT.step rfl fun w₁ r => ?_
        obtain ⟨h2, h3⟩ := hv w₁ (hS _ _ hw r)
        exact ⟨_, w₁, _, y, sG_value ho hwt hk (by rw [hro]; rfl) h2, h3, ih _ _ _ hn w₁ (hS _ _ hw r)⟩
      · exact t_un hT ho hwt (ih _ _ _ hn w hw)
/-- An operation that may come up now may be taken first. -/
theorem anyR_first {fn : FuncId} {md : Region.Mode} {S : World → Prop} {Q : Act → Prop} {i : Nat} {oi : Oper} {v : Value} (hi : ops[i]? = some oi) (hsel : ∀ (j : Nat) (o : Oper) cs b, ops[j]? = some o → o.op ≠ .select cs b) :
    ∀ (fuel : Nat) (listed : Array Bool) (a : Act), (∀ j oj, ops[j]? = some oj → j ≠ i → listed.getD j true = false → (∀ e ∈ oj.after, Region.binds md e = true → e.on ≠ i) → oi.apart ops oj = true) →
      i ∈ Region.ready md ops listed → RdOp P D fn ops y S oi v a → AnyR P D fn md ops y S Q fuel (listed.setIfInBounds i true) (a.put oi.dst v) → AnyR P D fn md ops y S Q (fuel + 1) listed a := by
  intro fuel
  induction fuel with
  | zero =>
    intro listed a _ hr hy H
    refine ⟨fun h => (by rw [h] at hr; cases hr), fun j hj => ?_⟩
    by_cases hji : j = i
    · subst hji; exact ⟨oi, v, hi, hy, H⟩
    · have := ready_mono hj hji
      rw [H.1] at this
      cases this
  | succ fuel ih =>
    intro listed a hfree hr hy H
    refine ⟨fun h => (by rw [h] at hr; cases hr), fun j hj => ?_⟩
    by_cases hji : j = i
    · subst hji; exact ⟨oi, v, hi, hy, H⟩
    · obtain ⟨oj, u, hoj, hyj, Hj⟩ := H.2 j (ready_mono hj hji)
      have hjun := (mem_ready.1 hj).1
      have hnot : ∀ e ∈ oj.after, Region.binds md e = true → e.on ≠ i := fun e he hb heq => by
        obtain ⟨_, oj', hoj', hall⟩ := mem_ready.1 hj
        rw [hoj] at hoj'; cases hoj'
        have h1 := hall e he hb
        have h0 := (mem_ready.1 hr).1
        rw [heq] at h1
        rcases Nat.lt_or_ge i listed.size with h' | h'
        · simp [h'] at h0 h1; rw [h0] at h1; cases h1
        · simp [Array.getElem?_eq_none h'] at h1
      obtain ⟨a1, a2, a3⟩ := Oper.apart_spec (hfree j oj hoj hji hjun hnot)
      have hyj' : RdOp P D fn ops y S oj u a := hyj.of_same (execOp_put oj (fun cs b => hsel j oj cs b hoj) a oi.dst v a1).symm (wanted_put oj a oi.dst v a1).symm
      have hyi : RdOp P D fn ops y S oi v (a.put oj.dst u) := hy.of_same (execOp_put oi (fun cs b => hsel i oi cs b hi) a oj.dst u a3) (wanted_put oi a oj.dst u a3)
      refine ⟨oj, u, hoj, hyj', ih _ _ (fun k ok hk hki hun hno => hfree k ok hk hki ?_ hno) (ready_mono hr (Ne.symm hji)) hyi ?_⟩
      · by_cases hjk : j = k
        · subst hjk; exact hjun
        · rw [getD_set_ne true hjk] at hun; exact hun
      · rw [Array.setIfInBounds_comm _ _ hji, ← Act.put_comm a v u a2]
        exact Hj
theorem anyR_take {fn : FuncId} {md : Region.Mode} {S : World → Prop} {Q : Act → Prop} {i : Nat} {oi : Oper} {v : Value} {fuel : Nat} {listed : Array Bool} (hi : ops[i]? = some oi) (hs : Region.noSelect ops = true) (hf : Region.free md ops listed i = true) (hr : (Region.ready md ops listed).contains i = true)
    (hy : RdOp P D fn ops y S oi v a) (h : AnyR P D fn md ops y S Q fuel (listed.setIfInBounds i true) (a.put oi.dst v)) : AnyR P D fn md ops y S Q (fuel + 1) listed a :=
  anyR_first hi (Region.noSelect_spec hs) fuel listed a (Region.free_spec hi hf) (by simpa using hr) hy h
theorem anyR_done {fn : FuncId} {md : Region.Mode} {S : World → Prop} {Q : Act → Prop} {listed : Array Bool} (hr : Region.ready md ops listed = []) (h : Q a) : ∀ fuel, AnyR P D fn md ops y S Q fuel listed a
  | 0 => ⟨hr, h⟩
  | _ + 1 => ⟨fun _ => h, fun i hi => by rw [hr] at hi; cases hi⟩
/-- THE BEGINNING. -/
theorem t_drawR (hT : Clo P main R D T) {S : World → Prop} (hS : ∀ w w₁, S w → R y w w₁ → S w₁) (hSd : ∀ w, S w → S { w with drawn := w.drawn + 1 }) (hm : P.follows .mixedOrders = true) (hk : b.kind ≠ .early) (hro : b.roundOf = none) {id : Nat} (hw : S w)
    (h : AnyR P D b.fn .any ops y S (fun a => ∀ w, S w → T y (G (b.atR a k) cs) w) ops.size (Array.replicate ops.size false) a) : T y (G (b.atR a (.code (.region id ops true) :: k)) cs) w :=
  t_draw hT fun w₁ r t => by
    simp only [Region.schedule, hm, Bool.true_or, if_true]
    exact anyR_sound hT hS hk hro ops.size t _ a h _ (hSd _ (hS _ _ hw r))

/-! ### a region that draws its order, order by order -/
def allSched (md : Region.Mode) (ops : Array Oper) : Nat → Array Bool → List (List Nat)
  | 0, _ => [[]]
  | fuel + 1, listed => match Region.ready md ops listed with
    | [] => [[]]
    | rs => rs.flatMap fun i => (allSched md ops fuel (listed.setIfInBounds i true)).map (i :: ·)
theorem mem_allSched {md : Region.Mode} : ∀ (fuel t : Nat) (listed : Array Bool), Region.linearise.go md ops fuel t listed [] ∈ allSched md ops fuel listed := by
  intro fuel
  induction fuel with
  | zero => intro t listed; simp [Region.linearise.go, allSched]
  | succ fuel ih =>
    intro t listed
    simp only [Region.linearise.go]
    change (match (Region.ready md ops listed)[t % (Region.ready md ops listed).length]? with
      | some i => Region.linearise.go md ops fuel (t / (Region.ready md ops listed).length) (listed.setIfInBounds i true) [i]
      | none => [].reverse) ∈ _
    unfold allSched
    cases hr : Region.ready md ops listed with
    | nil => simp
    | cons x xs =>
      have hlt : t % (x :: xs).length < (x :: xs).length := Nat.mod_lt _ (by simp)
      obtain ⟨i, hi⟩ : ∃ i, (x :: xs)[t % (x :: xs).length]? = some i := ⟨_, List.getElem?_eq_getElem hlt⟩
      rw [hi]
      simp only []
      rw [linearise_go_acc, List.reverse_singleton, List.singleton_append]
      exact List.mem_flatMap.2 ⟨i, List.mem_of_getElem? hi, List.mem_map.2 ⟨_, ih _ _, rfl⟩⟩
theorem t_drawL (hT : Clo P main R D T) (hm : P.follows .mixedOrders = true) {id : Nat} {L : List (List Nat)} (hL : allSched .any ops ops.size (Array.replicate ops.size false) = L)
    (h : ∀ w₁, R y w w₁ → ∀ l ∈ L, T y (G (b.atR a (.inRegion ops l :: k)) cs) { w₁ with drawn := w₁.drawn + 1 }) : T y (G (b.atR a (.code (.region id ops true) :: k)) cs) w :=
  t_draw hT fun w₁ r t => by
    simp only [Region.schedule, hm, Bool.true_or, if_true]
    refine h w₁ r _ ?_
    rw [← hL]
    exact mem_allSched _ _ _
end

end Go.Proofs.Ytkbfcaaihellfaa

/- What a piece of the model's code may list: no word of the library's but the request for room; touches of what is there. No program in sight. -/
namespace Go.Proofs.Ytkbfcaaihellfaa
open Go.Conc Go.ConcN
set_option linter.unusedVariables false
set_option linter.unusedSectionVars false
set_option linter.unusedSimpArgs false

def HaltOk : Halt → Prop
  | .panic _ | .stuck _ | .unsupported _ => True
  | _ => False
/-- It comes to no panic; to a value only if b. -/
def Dm (P : Program) (b : Bool) {α : Type} : Sem α → Prop
  | .pure _ => b = true
  | .load _ _ k => ∀ v, Dm P b (k v)
  | .store _ _ _ k => Dm P b k
  | .new _ k => ∀ r, Dm P b (k r)
  | .shape _ k => ∀ s, Dm P b (k s)
  | .freeze _ _ k => Dm P b k
  | .frozen _ k => ∀ x, Dm P b (k x)
  | .getObj _ k => ∀ o, Dm P b (k o)
  | .setObj _ _ k => Dm P b k
  | .choose _ k => ∀ n, Dm P b (k n)
  | .sys _ _ => False
  | .program k => Dm P b (k P)
  | .mark m k => m = .noRoom ∧ Dm P b k
  | .halt h => match h with | .stuck _ | .unsupported _ => True | _ => False
/-- It never comes to a value. -/
def Nv (P : Program) {α : Type} : Sem α → Prop
  | .pure _ => False
  | .load _ _ k => ∀ v, Nv P (k v)
  | .store _ _ _ k => Nv P k
  | .new _ k => ∀ r, Nv P (k r)
  | .shape _ k => ∀ s, Nv P (k s)
  | .freeze _ _ k => Nv P k
  | .frozen _ k => ∀ x, Nv P (k x)
  | .getObj _ k => ∀ o, Nv P (k o)
  | .setObj _ _ k => Nv P k
  | .choose _ k => ∀ n, Nv P (k n)
  | .sys _ k => ∀ r, Nv P (k r)
  | .program k => Nv P (k P)
  | .mark _ k => Nv P k
  | .halt _ => True
/-- Every end by a value satisfies Q; no mark is said but the request for room; no end but a panic or one that ends all. -/
def NoM (P : Program) {α : Type} (Q : α → Prop) : Sem α → Prop
  | .pure a => Q a
  | .load _ _ k => ∀ v, NoM P Q (k v)
  | .store _ _ _ k => NoM P Q k
  | .new _ k => ∀ r, NoM P Q (k r)
  | .shape _ k => (∀ s, NoM P Q (k s)) ∧ ∀ t n, k (some (t, 0)) = k (some (t, n)) ∨ Dm P false (k (some (t, 0)))
  | .freeze _ _ k => NoM P Q k
  | .frozen _ k => ∀ b, NoM P Q (k b)
  | .getObj _ k => ∀ o, NoM P Q (k o)
  | .setObj _ _ k => NoM P Q k
  | .choose _ k => ∀ n, NoM P Q (k n)
  | .sys _ k => (∀ r, NoM P Q (k r)) ∧ ∀ r, Nv P (k r)
  | .program k => NoM P Q (k P)
  | .mark m k => m = .noRoom ∧ NoM P Q k
  | .halt h => HaltOk h
/-- An entry well listed: no mark but the request for room; a touch of a block below n. -/
def EvP (n : Nat) (e : Event) : Prop := (∀ m, e.loc = .mark m → m = .noRoom) ∧ (e.loc.isMemory = true → blk e.loc < n)
theorem EvP.mono {n n' : Nat} {e : Event} (h : EvP n e) (hn : n ≤ n') : EvP n' e := ⟨h.1, fun x => Nat.lt_of_lt_of_le (h.2 x) hn⟩
def resw {α : Type} : Result α → World
  | .ok _ w => w
  | .halt _ w => w
def resOk {α : Type} (Q : α → Prop) : Result α → Prop
  | .ok a _ => Q a
  | .halt h _ => HaltOk h

theorem seen_lt {p : Program} {w : World} {at_ : Addr} {u : TypeId} {k : Addr} {b : Bool} {r : Array Value × TypeId × (Nat × Nat) × Nat × Value × List (Nat × Nat × List UInt8)} (h : w.seen p at_ u k b = .ok r) : at_.block < w.heap.size := by
  rcases Nat.lt_or_ge at_.block w.heap.size with hl | hl
  · exact hl
  · have hn : w.heap[at_.block]? = none := Array.getElem?_eq_none hl
    unfold World.seen at h
    simp only [hn] at h
    simp only [bind, Except.bind, throw, throwThe, MonadExceptOf.throw, pure, Except.pure] at h
    repeat' split at h
    all_goals (first | cases h | skip)
theorem far_lt {p : Program} {w : World} {a : Addr} {b : Bool} {v : Value} {l : List Addr} (h : w.farLoad p a b = .ok (v, l)) : ∀ x ∈ l, x.block < w.heap.size := by
  unfold World.farLoad at h
  split at h
  · rename_i at_ u _
    unfold World.viewLoad at h
    simp only [bind, Except.bind, throw, throwThe, MonadExceptOf.throw, pure, Except.pure] at h
    cases hs : w.seen p at_ u a b with
    | error e => rw [hs] at h; simp at h
    | ok r =>
      rw [hs] at h
      have := seen_lt hs
      simp only at h
      split at h <;> first | cases h | skip
      rename_i heq
      split at heq
      · cases heq
        intro x hx
        simp only [List.mem_map] at hx
        obtain ⟨y, _, rfl⟩ := hx
        exact this
      · cases heq
  · cases h
theorem farS_lt {p : Program} {w w' : World} {a : Addr} {b : Bool} {v : Value} {l : List Addr} (h : w.farStore p a v b = .ok (w', l)) : w'.heap.size = w.heap.size ∧ ∀ x ∈ l, x.block < w.heap.size := by
  unfold World.farStore at h
  split at h
  · rename_i at_ u _
    unfold World.viewStore at h
    simp only [bind, Except.bind, throw, throwThe, MonadExceptOf.throw, instMonadExceptOfMonadExceptOf, pure, Except.pure] at h
    have fin : ∀ {x : Except String (World × List Addr)} , (∀ y, x = .ok y → y.1.heap.size = w.heap.size ∧ ∀ z ∈ y.2, z.block < w.heap.size) → (match x with | .ok r => Except.ok r | .error why => .error (Halt.unsupported (.unsafePointer why))) = .ok (w', l) → w'.heap.size = w.heap.size ∧ ∀ x ∈ l, x.block < w.heap.size := by
      intro x hx he
      cases x with
      | error e => cases he
      | ok y => cases he; exact hx _ rfl
    refine fin (fun y hy => ?_) h
    clear fin h
    have hs : ∀ r, w.seen p at_ u a b = .ok r → at_.block < w.heap.size := fun r h => seen_lt h
    generalize w.seen p at_ u a b = S at hy hs
    repeat' split at hy
    all_goals (try cases hy)
    all_goals (first
      | (refine ⟨by simp, fun z hz => ?_⟩
         simp only [List.mem_map] at hz
         obtain ⟨q, _, rfl⟩ := hz
         exact hs _ rfl)
      | (rename_i hq; cases hq; done)
      | (rename_i hq _; cases hq; done)
      | skip)
  · cases h
theorem ask_heap {α : Type} (w : World) : ∀ (x : Ask α) , (w.ask x).2.heap = w.heap := by
  intro x
  induction x generalizing w with
  | done a => rfl
  | ask what range k ih =>
    simp only [World.ask]
    split
    · exact ih _ _
    · exact (ih _ _).trans rfl
theorem sys_heap (w : World) (c : Sys) : (w.sys c).2.heap = w.heap := by
  unfold World.sys
  have := ask_heap w (Kernel.perform c w.os)
  split <;> first | rfl | (rename_i h; rw [h] at this; exact this)
theorem setCell_size (w : World) (a : Addr) (v : Value) : (w.setCell a v).heap.size = w.heap.size := by simp [World.setCell]
theorem freeze_size (w : World) (a : Addr) (n : Nat) : (w.freeze a n).heap.size = w.heap.size := by
  unfold World.freeze; split <;> simp
theorem cell_lt {w : World} {a : Addr} {v : Value} (h : w.cell? a = some v) : a.block < w.heap.size := by
  rcases Nat.lt_or_ge a.block w.heap.size with hl | hl
  · exact hl
  · simp [World.cell?, Array.getElem?_eq_none hl] at h

theorem runT_nom {P : Program} {α : Type} {Q : α → Prop} : ∀ (s : Sem α), NoM P Q s → ∀ (w : World) (es : Array Event), resOk Q (s.runT P w es).1 ∧ w.heap.size ≤ (resw (s.runT P w es).1).heap.size ∧ ∀ e ∈ (s.runT P w es).2, e ∈ es ∨ EvP (resw (s.runT P w es).1).heap.size e := by
  intro s
  have thru : ∀ {r : Result α × Array Event} {w w' : World} {es es' : Array Event}, (resOk Q r.1 ∧ w'.heap.size ≤ (resw r.1).heap.size ∧ ∀ e ∈ r.2, e ∈ es' ∨ EvP (resw r.1).heap.size e) → w.heap.size ≤ w'.heap.size → (∀ e ∈ es', e ∈ es ∨ EvP w.heap.size e) →
      resOk Q r.1 ∧ w.heap.size ≤ (resw r.1).heap.size ∧ ∀ e ∈ r.2, e ∈ es ∨ EvP (resw r.1).heap.size e := fun h hw he =>
    ⟨h.1, Nat.le_trans hw h.2.1, fun e hm => (h.2.2 e hm).elim (fun hm => (he e hm).imp id fun x => x.mono (Nat.le_trans hw h.2.1)) .inr⟩
  have one : ∀ {n : Nat} {es : Array Event} {x : Event}, EvP n x → ∀ e ∈ es.push x, e ∈ es ∨ EvP n e := fun hx e he => by
    rcases Array.mem_push.1 he with h | rfl
    · exact .inl h
    · exact .inr hx
  have many : ∀ {n : Nat} {es : Array Event} {l : List Addr} {b c : Bool}, (∀ x ∈ l, x.block < n) → ∀ e ∈ es ++ l.toArray.map (fun a => (⟨.cell a, b, c⟩ : Event)), e ∈ es ∨ EvP n e := fun hl e he => by
    rcases Array.mem_append.1 he with h | h
    · exact .inl h
    · obtain ⟨a, ha, rfl⟩ := Array.mem_map.1 h
      exact .inr ⟨fun m h => (by cases h), fun _ => hl a (by simpa using ha)⟩
  have same : ∀ {es : Array Event} {n : Nat}, ∀ e ∈ es, e ∈ es ∨ EvP n e := fun e he => .inl he
  induction s with
  | pure a => exact fun h w es => ⟨h, Nat.le_refl _, fun e he => .inl he⟩
  | halt h' => exact fun h w es => ⟨h, Nat.le_refl _, fun e he => .inl he⟩
  | load m a k ih =>
    intro h w es
    unfold Sem.runT
    split
    · rename_i v hc
      exact thru (ih v (h v) w _) (Nat.le_refl _) (one ⟨fun m h => (by cases h), fun _ => cell_lt hc⟩)
    · split
      · rename_i v l hf
        exact thru (ih v (h v) w _) (Nat.le_refl _) (many (far_lt hf))
      · rename_i hh hf
        refine ⟨?_, Nat.le_refl _, fun e he => .inl he⟩
        unfold World.farLoad at hf
        split at hf
        · split at hf
          · cases hf
          · cases hf; trivial
        · cases hf
          unfold World.noCell
          split <;> trivial
  | store m a v k ih =>
    intro h w es
    have key : ∀ v : Value, (fun r : Result α × Array Event => resOk Q r.1 ∧ w.heap.size ≤ (resw r.1).heap.size ∧ ∀ e ∈ r.2, e ∈ es ∨ EvP (resw r.1).heap.size e) (match w.cell? a with
        | some _ => if w.frozen? a then (Result.halt (.unsupported (.unsafePointer "a write to bytes that a string shares")) w, es) else k.runT P (w.setCell a v) (es.push ⟨.cell a, true, m == .atomic⟩)
        | none => match w.farStore P a v (m == .atomic) with
          | .ok (w, touched) => k.runT P w (es ++ touched.toArray.map (⟨.cell ·, true, m == .atomic⟩))
          | .error h => (.halt h w, es)) := fun v => by
      split
      · rename_i hc
        split
        · exact ⟨trivial, Nat.le_refl _, fun e he => .inl he⟩
        · exact thru (ih h _ _) (by rw [setCell_size]; exact Nat.le_refl _) (one ⟨fun m h => (by cases h), fun _ => cell_lt hc⟩)
      · split
        · rename_i w' l hf
          have := farS_lt hf
          exact thru (ih h _ _) (by rw [this.1]; exact Nat.le_refl _) (many this.2)
        · rename_i hh hf
          refine ⟨?_, Nat.le_refl _, fun e he => .inl he⟩
          unfold World.farStore at hf
          split at hf
          · split at hf
            · cases hf
            · cases hf; trivial
          · cases hf
            unfold World.noCell
            split <;> trivial
    cases v <;> first | exact ⟨trivial, Nat.le_refl _, fun e he => .inl he⟩ | exact key _
  | new o k ih => exact fun h w es => thru (w := w) (ih _ (h _) _ es) (by simp) same
  | shape r k ih => exact fun h w es => ih _ (h.1 _) w es
  | freeze a n k ih => exact fun h w es => thru (w := w) (ih h _ es) (by rw [freeze_size]; exact Nat.le_refl _) same
  | frozen a k ih => exact fun h w es => ih _ (h _) w es
  | getObj r k ih =>
    intro h w es
    unfold Sem.runT
    split
    · exact ⟨trivial, Nat.le_refl _, fun e he => .inl he⟩
    · rename_i o _ hr
      exact thru (ih _ (h _) w _) (Nat.le_refl _) (one ⟨fun m h => (by cases h), fun _ => (Array.getElem?_eq_some_iff.1 hr).1⟩)
    · exact ⟨trivial, Nat.le_refl _, fun e he => .inl he⟩
  | setObj r o k ih =>
    intro h w es
    unfold Sem.runT
    split
    · exact ⟨trivial, Nat.le_refl _, fun e he => .inl he⟩
    · rename_i _ _ hr
      exact thru (w := w) (ih h _ _) (by simp) (one ⟨fun m h => (by cases h), fun _ => (Array.getElem?_eq_some_iff.1 hr).1⟩)
    · exact ⟨trivial, Nat.le_refl _, fun e he => .inl he⟩
  | choose q k ih =>
    intro h w es
    unfold Sem.runT
    split
    · exact ih _ (h _) w es
    · exact thru (w := w) (ih _ (h _) _ es) (Nat.le_refl _) same
  | sys c k ih =>
    intro h w es
    unfold Sem.runT
    exact thru (w := w) (ih _ (h.1 _) _ _) (by rw [sys_heap]; exact Nat.le_refl _) (one ⟨fun m h => (by cases h), fun h => (by cases h)⟩)
  | program k ih => exact fun h w es => ih _ h w es
  | mark m k ih =>
    intro h w es
    unfold Sem.runT
    exact thru (w := w) (ih h.2 w _) (Nat.le_refl _) (one ⟨fun m' e => (by cases e; exact h.1), fun h => (by cases h)⟩)
end Go.Proofs.Ytkbfcaaihellfaa
