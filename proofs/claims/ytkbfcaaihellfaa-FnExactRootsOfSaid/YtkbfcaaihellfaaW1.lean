/- Steps on the way to the law; each part says what it proves. -/
import Derived.Test.YtkbfcaaihellfaaU1

set_option linter.unusedSimpArgs false

/- A region that draws its order, that reads and calls: each operation is walked once; what the world must meet grows with the calls. No program in sight. -/
namespace Go.Proofs.Ytkbfcaaihellfaa
open Go.Conc Go.ConcN
set_option linter.unusedVariables false
set_option linter.unusedSectionVars false

section
variable {P : Program} {main : Bool} {γ : Type} {R : γ → World → World → Prop} {D : γ → World → World → Array Event → γ → Prop} {T : γ → Goroutine → World → Prop}
variable {b : Frame} {a : Act} {k : List Item} {cs : List Frame} {y : γ} {w : World} {ops : Array Oper}

theorem RdOp.mono {fn : FuncId} {S S' : World → Prop} {o : Oper} {v : Value} (h : RdOp P D fn ops y S o v a) (hs : ∀ w, S' w → S w) : RdOp P D fn ops y S' o v a := by
  rcases h with ⟨h1, h2⟩ | h
  · exact .inl ⟨h1, fun w hw => h2 w (hs w hw)⟩
  · exact .inr h
/-- In state a operation o is a call; it comes back with a value val x in a world that meets S' x. -/
def CallO (P : Program) {γ : Type} (T : γ → Goroutine → World → Prop) (ops : Array Oper) (y : γ) (S : World → Prop) (o : Oper) {ι : Type} (val : ι → Value) (S' : ι → World → Prop) (a : Act) : Prop :=
  Region.wanted o (yielded ops a.tmps) = true ∧ ∃ (f : FuncId) (fn : Func) (code : Code) (args : Array Operand) (ats : Array TypeId), o.op = .call { callee := .value (.func f), args, argTypes := ats } ∧ P.funcs[f]? = some fn ∧ (fn.name == "runtime.NumGoroutine") = false ∧ fn.body = some code ∧
    ∀ w, S w → CallsT P T f (args.map a.eval) y w fun v y' w' => y' = y ∧ ∃ x, v = val x ∧ S' x w'
theorem CallO.of_put {S : World → Prop} {o : Oper} {ι : Type} {val : ι → Value} {S' : ι → World → Prop} {d : Option Tmp} {v : Value} (h : CallO P T ops y S o val S' (a.put d v)) (hl : ∀ t, d = some t → t ∉ o.looksAt ops) : CallO P T ops y S o val S' a := by
  obtain ⟨h1, f, fn, code, args, ats, h2, h3, h4, h5, h6⟩ := h
  refine ⟨by rw [← wanted_put o a d v hl]; exact h1, f, fn, code, args, ats, h2, h3, h4, h5, ?_⟩
  have e : args.map (a.put d v).eval = args.map a.eval := Array.map_congr_left fun x hx => Act.eval_put fun t ht hxt => hl t ht (by
    subst hxt
    refine List.mem_append_left _ (List.mem_filterMap.2 ⟨.tmp t, ?_, rfl⟩)
    rw [h2]
    simp [Op.operands, Call.operands, hx])
  rw [← e]
  exact h6
def AnyC (P : Program) {γ : Type} (R : γ → World → World → Prop) (D : γ → World → World → Array Event → γ → Prop) (T : γ → Goroutine → World → Prop) (fn : FuncId) (md : Region.Mode) (ops : Array Oper) (y : γ) (Q : (World → Prop) → Act → Prop) : Nat → (World → Prop) → Array Bool → Act → Prop
  | 0, S, listed, a => Region.ready md ops listed = [] ∧ Q S a
  | fuel + 1, S, listed, a => (Region.ready md ops listed = [] → Q S a) ∧ ∀ i ∈ Region.ready md ops listed, ∃ o, ops[i]? = some o ∧
      ((∃ v, RdOp P D fn ops y S o v a ∧ AnyC P R D T fn md ops y Q fuel S (listed.setIfInBounds i true) (a.put o.dst v)) ∨
        ∃ (ι : Type) (val : ι → Value) (S' : ι → World → Prop), (∀ x w, S' x w → S w) ∧ (∀ x w w₁, S' x w → R y w w₁ → S' x w₁) ∧ CallO P T ops y S o val S' a ∧ ∀ x, AnyC P R D T fn md ops y Q fuel (S' x) (listed.setIfInBounds i true) (a.put o.dst (val x)))
theorem anyC_sound (hT : Clo P main R D T) (hk : b.kind ≠ .early) (hro : b.roundOf = none) {md : Region.Mode} :
    ∀ (fuel t : Nat) (S : World → Prop) (listed : Array Bool) (a : Act), (∀ w w₁, S w → R y w w₁ → S w₁) → AnyC P R D T b.fn md ops y (fun S a => ∀ w, S w → T y (G (b.atR a k) cs) w) fuel S listed a → ∀ w, S w → T y (G (b.atR a (.inRegion ops (Region.linearise.go md ops fuel t listed []) :: k)) cs) w := by
  intro fuel
  induction fuel with
  | zero => intro t S listed a hS h w hw; exact t_rend hT (h.2 w hw)
  | succ fuel ih =>
    intro t S listed a hS h w hw
    obtain ⟨h0, h1⟩ := h
    simp only [Region.linearise.go]
    change T y (G (b.atR a (.inRegion ops (match (Region.ready md ops listed)[t % (Region.ready md ops listed).length]? with
      | some i => Region.linearise.go md ops fuel (t / (Region.ready md ops listed).length) (listed.setIfInBounds i true) [i]
      | none => [].reverse) :: k)) cs) w
    cases hi : (Region.ready md ops listed)[t % (Region.ready md ops listed).length]? with
    | none =>
      have hnil : Region.ready md ops listed = [] := by
        cases hr : Region.ready md ops listed with
        | nil => rfl
        | cons x xs =>
          rw [hr] at hi
          have hlt : t % (x :: xs).length < (x :: xs).length := Nat.mod_lt _ (by simp)
          simp at hi
          simp at hlt
          omega
      exact t_rend hT (h0 hnil w hw)
    | some i =>
      simp only []
      rw [linearise_go_acc, List.reverse_singleton, List.singleton_append]
      obtain ⟨o, ho, hh⟩ := h1 i (List.mem_of_getElem? hi)
      rcases hh with ⟨v, hrd, hn⟩ | ⟨ι, val, S', hm, hst, ⟨hwt, f, fn, code, args, ats, hop, hf, hnm, hb, hcall⟩, hn⟩
      · rcases hrd with ⟨hwt, hv⟩ | ⟨hwt, rfl⟩
        · refine hT.step rfl fun w₁ r => ?_
          obtain ⟨h2, h3⟩ := hv w₁ (hS _ _ hw r)
          exact ⟨_, w₁, _, y, sG_value ho hwt hk (by rw [hro]; rfl) h2, h3, ih _ _ _ _ hS hn w₁ (hS _ _ hw r)⟩
        · exact t_un hT ho hwt (ih _ _ _ _ hS hn w hw)
      · refine t_call hT ho hwt hk (by rw [hro]; rfl) hop hf hnm hb (hcall w hw) fun v y' w' hp => ?_
        obtain ⟨rfl, x, rfl, h3⟩ := hp
        exact ih _ _ _ _ (hst x) (hn x) w' h3
/-- An operation that only reads and may come up now may be taken first. -/
theorem anyC_first {fn : FuncId} {md : Region.Mode} {Q : (World → Prop) → Act → Prop} {i : Nat} {oi : Oper} {v : Value} (hi : ops[i]? = some oi) (hsel : ∀ (j : Nat) (o : Oper) cs b, ops[j]? = some o → o.op ≠ .select cs b) :
    ∀ (fuel : Nat) (S : World → Prop) (listed : Array Bool) (a : Act), (∀ j oj, ops[j]? = some oj → j ≠ i → listed.getD j true = false → (∀ e ∈ oj.after, Region.binds md e = true → e.on ≠ i) → oi.apart ops oj = true) →
      i ∈ Region.ready md ops listed → RdOp P D fn ops y S oi v a → AnyC P R D T fn md ops y Q fuel S (listed.setIfInBounds i true) (a.put oi.dst v) → AnyC P R D T fn md ops y Q (fuel + 1) S listed a := by
  intro fuel
  induction fuel with
  | zero =>
    intro S listed a _ hr hy H
    refine ⟨fun h => (by rw [h] at hr; cases hr), fun j hj => ?_⟩
    by_cases hji : j = i
    · subst hji; exact ⟨oi, hi, .inl ⟨v, hy, H⟩⟩
    · have := ready_mono hj hji
      rw [H.1] at this
      cases this
  | succ fuel ih =>
    intro S listed a hfree hr hy H
    refine ⟨fun h => (by rw [h] at hr; cases hr), fun j hj => ?_⟩
    by_cases hji : j = i
    · subst hji; exact ⟨oi, hi, .inl ⟨v, hy, H⟩⟩
    · obtain ⟨oj, hoj, hh⟩ := H.2 j (ready_mono hj hji)
      have hjun := (mem_ready.1 hj).1
      have hnot : ∀ e ∈ oj.after, Region.binds md e = true → e.on ≠ i := fun e he hb heq => by
        obtain ⟨_, oj', hoj', hall⟩ := mem_ready.1 hj
        rw [hoj] at hoj'; cases hoj'
        have h1 := hall e he hb
        have h0 := (mem_ready.1 hr).1
        rw [heq] at h1
        rcases Nat.lt_or_ge i listed.size with h' | h'
        · simp [h'] at h0 h1; rw [h0] at h1; cases h1
        · simp [Array.getElem?_eq_none h'] at h1
      have hap := hfree j oj hoj hji hjun hnot
      obtain ⟨a1, a2, a3⟩ := Oper.apart_spec hap
      have hfree' : ∀ (kk : Nat) (ok : Oper), ops[kk]? = some ok → kk ≠ i → (listed.setIfInBounds j true).getD kk true = false → (∀ e ∈ ok.after, Region.binds md e = true → e.on ≠ i) → oi.apart ops ok = true := fun kk ok hk hki hun hno => hfree kk ok hk hki (by
        by_cases hjk : j = kk
        · subst hjk; exact hjun
        · rw [getD_set_ne true hjk] at hun; exact hun) hno
      refine ⟨oj, hoj, ?_⟩
      rcases hh with ⟨u, hyj, Hj⟩ | ⟨ι, val, S', hm, hst, hcall, Hj⟩
      · refine .inl ⟨u, hyj.of_same (execOp_put oj (fun cs b => hsel j oj cs b hoj) a oi.dst v a1).symm (wanted_put oj a oi.dst v a1).symm, ih _ _ _ hfree' (ready_mono hr (Ne.symm hji)) (hy.of_same (execOp_put oi (fun cs b => hsel i oi cs b hi) a oj.dst u a3) (wanted_put oi a oj.dst u a3)) ?_⟩
        rw [Array.setIfInBounds_comm _ _ hji, ← Act.put_comm a v u a2]
        exact Hj
      · refine .inr ⟨ι, val, S', hm, hst, hcall.of_put a1, fun x => ih _ _ _ hfree' (ready_mono hr (Ne.symm hji)) ((hy.mono (hm x)).of_same (execOp_put oi (fun cs b => hsel i oi cs b hi) a oj.dst (val x) a3) (wanted_put oi a oj.dst (val x) a3)) ?_⟩
        rw [Array.setIfInBounds_comm _ _ hji, ← Act.put_comm a v (val x) a2]
        exact Hj x
theorem anyC_take {fn : FuncId} {md : Region.Mode} {S : World → Prop} {Q : (World → Prop) → Act → Prop} {i : Nat} {oi : Oper} {v : Value} {fuel : Nat} {listed : Array Bool} (hi : ops[i]? = some oi) (hs : Region.noSelect ops = true) (hf : Region.free md ops listed i = true) (hr : (Region.ready md ops listed).contains i = true)
    (hy : RdOp P D fn ops y S oi v a) (h : AnyC P R D T fn md ops y Q fuel S (listed.setIfInBounds i true) (a.put oi.dst v)) : AnyC P R D T fn md ops y Q (fuel + 1) S listed a :=
  anyC_first hi (Region.noSelect_spec hs) fuel S listed a (Region.free_spec hi hf) (by simpa using hr) hy h
/-- just one may come up, a call -/
theorem anyC_call {fn : FuncId} {md : Region.Mode} {S : World → Prop} {Q : (World → Prop) → Act → Prop} {i : Nat} {oi : Oper} {fuel : Nat} {listed : Array Bool} (hr : Region.ready md ops listed = [i]) (hi : ops[i]? = some oi) {f : FuncId} {fn' : Func} {code : Code} {args : Array Operand} {ats : Array TypeId}
    (hw : Region.wanted oi (yielded ops a.tmps) = true) (hop : oi.op = .call { callee := .value (.func f), args, argTypes := ats }) (hf : P.funcs[f]? = some fn') (hname : (fn'.name == "runtime.NumGoroutine") = false) (hb : fn'.body = some code)
    {ι : Type} (val : ι → Value) (S' : ι → World → Prop) (hm : ∀ x w, S' x w → S w) (hst : ∀ x w w₁, S' x w → R y w w₁ → S' x w₁)
    (hcall : ∀ w, S w → CallsT P T f (args.map a.eval) y w fun v y' w' => y' = y ∧ ∃ x, v = val x ∧ S' x w')
    (h : ∀ x, AnyC P R D T fn md ops y Q fuel (S' x) (listed.setIfInBounds i true) (a.put oi.dst (val x))) : AnyC P R D T fn md ops y Q (fuel + 1) S listed a := by
  refine ⟨fun e => (by rw [hr] at e; cases e), fun j hj => ?_⟩
  rw [hr] at hj
  obtain rfl : j = i := by simpa using hj
  exact ⟨oi, hi, .inr ⟨ι, val, S', hm, hst, ⟨hw, f, fn', code, args, ats, hop, hf, hname, hb, hcall⟩, h⟩⟩
/-- two may come up, both calls -/
theorem anyC_two {fn : FuncId} {md : Region.Mode} {S : World → Prop} {Q : (World → Prop) → Act → Prop} {i j : Nat} {fuel : Nat} {listed : Array Bool} (hr : Region.ready md ops listed = [i, j])
    (h1 : ∃ o, ops[i]? = some o ∧ ∃ (ι : Type) (val : ι → Value) (S' : ι → World → Prop), (∀ x w, S' x w → S w) ∧ (∀ x w w₁, S' x w → R y w w₁ → S' x w₁) ∧ CallO P T ops y S o val S' a ∧ ∀ x, AnyC P R D T fn md ops y Q fuel (S' x) (listed.setIfInBounds i true) (a.put o.dst (val x)))
    (h2 : ∃ o, ops[j]? = some o ∧ ∃ (ι : Type) (val : ι → Value) (S' : ι → World → Prop), (∀ x w, S' x w → S w) ∧ (∀ x w w₁, S' x w → R y w w₁ → S' x w₁) ∧ CallO P T ops y S o val S' a ∧ ∀ x, AnyC P R D T fn md ops y Q fuel (S' x) (listed.setIfInBounds j true) (a.put o.dst (val x))) : AnyC P R D T fn md ops y Q (fuel + 1) S listed a := by
  refine ⟨fun e => (by rw [hr] at e; cases e), fun m hm => ?_⟩
  rw [hr] at hm
  simp only [List.mem_cons, List.not_mem_nil, or_false] at hm
  rcases hm with rfl | rfl
  · obtain ⟨o, ho, hh⟩ := h1
    exact ⟨o, ho, .inr hh⟩
  · obtain ⟨o, ho, hh⟩ := h2
    exact ⟨o, ho, .inr hh⟩
theorem anyC_done {fn : FuncId} {md : Region.Mode} {S : World → Prop} {Q : (World → Prop) → Act → Prop} {listed : Array Bool} (hr : Region.ready md ops listed = []) (h : Q S a) : ∀ fuel, AnyC P R D T fn md ops y Q fuel S listed a
  | 0 => ⟨hr, h⟩
  | _ + 1 => ⟨fun _ => h, fun i hi => by rw [hr] at hi; cases hi⟩
/-- THE BEGINNING. -/
theorem t_drawC (hT : Clo P main R D T) {S : World → Prop} (hS : ∀ w w₁, S w → R y w w₁ → S w₁) (hSd : ∀ w, S w → S { w with drawn := w.drawn + 1 }) (hm : P.follows .mixedOrders = true) (hk : b.kind ≠ .early) (hro : b.roundOf = none) {id : Nat} (hw : S w)
    (h : AnyC P R D T b.fn .any ops y (fun S a => ∀ w, S w → T y (G (b.atR a k) cs) w) ops.size S (Array.replicate ops.size false) a) : T y (G (b.atR a (.code (.region id ops true) :: k)) cs) w :=
  t_draw hT fun w₁ r t => by
    simp only [Region.schedule, hm, Bool.true_or, if_true]
    exact anyC_sound hT hk hro ops.size t S _ a hS h _ (hSd _ (hS _ _ hw r))
end
end Go.Proofs.Ytkbfcaaihellfaa
