/- The iterators over a map's things, and what collects them. -/
import Derived.Test.YtjipecfoiddkjaaS1
import Derived.RangeFuncNested
import Derived.RangeFuncBound
import Derived.RangeFuncCalls
import Derived.RangeFuncBox
import Derived.RangeFuncLeaves
import Derived.Shelf.Abstract
import Derived.WalkKit
import Derived.OwnWalkIn
import Derived.TacticsInMore
import Derived.LoopNIn
import Derived.LoopIn
namespace Go.Proofs.Ytjipecfoiddkjaa
open Go.RowKit Go.Shelf
set_option linter.unusedVariables false
attribute [local go_sem] Oper.semAt_some

/-- a thing of f that is led to t -/
abbrev Th (f : List Int) (t : Int) := { x : Nat // x < f.length ∧ nth f x = t }
theorem frN_succ_yes {f : List Int} {t : Int} {k : Nat} (h : nth f k = t) : frN f t (k + 1) = frN f t k ++ [k] := by
  rw [frN, List.range_succ, List.filter_append, show List.filter (fun j => nth f j == t) [k] = [k] by simp [h]]; rfl
theorem frN_succ_no {f : List Int} {t : Int} {k : Nat} (h : nth f k ≠ t) : frN f t (k + 1) = frN f t k := by
  rw [frN, List.range_succ, List.filter_append, show List.filter (fun j => nth f j == t) [k] = [] by simp [h], List.append_nil]; rfl

set_option maxRecDepth 100000 in
set_option maxHeartbeats 1000000 in
theorem from1_in (n : Nat) (hn : 1 ≤ n) (l Bs Bt n₀ cap : Nat) (ad : Addr) (f : List Int) (t : Int) (h7 : f.length ≤ 7) (had : ad.block < n₀) (hBn : Bs < n₀) (hTn : Bt < n₀) (J Jx : List (Th f t) → World → Prop)
    (hY : ∀ pre x W, J pre W → pre.length < f.length → YieldAt Fence.wide (n - 1) Try.prog l #[.int .i64 (x.1 : Nat)] W fun e W' =>
      (e = .returned (.bool true) ∧ J (pre ++ [x]) W' ∧ Below n₀ W W') ∨ (e = .returned (.bool false) ∧ Jx (pre ++ [x]) W'))
    (W : World) (hBs : W.cell? ⟨Bs, 0, none⟩ = some (.slice (some ad) f.length cap)) (hBt : W.cell? ⟨Bt, 0, none⟩ = some (.int .i64 t)) (hc : ∀ k, k < f.length → W.cell? (ad.add k) = some (.int .i64 (nth f k))) (h0 : J [] W) :
    CallsIn Fence.wide n Try.prog 69 #[.func (.yield l) #[] #[], .pointer (some ⟨Bs, 0, none⟩), .pointer (some ⟨Bt, 0, none⟩)] W fun e W' => (∃ v, e = .returned v) ∧
      ((∃ ys : List (Th f t), ys.map (·.1) = frN f t f.length ∧ J ys W') ∨ (∃ pre : List (Th f t), True ∧ Jx pre W')) := by
  refine callsIn_of_wp Try.func69 rfl trivial ?_ rfl
  simp only [Try.ntmps69, List.size_toArray, List.length_cons, List.length_nil, Nat.reduceAdd, Nat.reduceSub, Array.replicate_succ, Array.replicate_zero, List.push_toArray, List.append_toArray, List.nil_append, List.cons_append]
  gi_wp2
  gi_loopw [8] (fun i wr => ∃ (k : Nat) (pre : List (Th f t)), k ≤ f.length ∧ i = .int .i64 k ∧ Hid (pre.map (·.1) = frN f t k) ∧ J pre wr ∧ Below n₀ W wr)
    (fun i _ => f.length - (intOf i).toNat)
  case atStart => exact ⟨0, [], Nat.zero_le _, rfl, rfl, h0, Below.refl _ _⟩
  case round =>
    obtain ⟨k, pre, hk, rfl, HP, hJs, hnx⟩ := hrel
    by_cases hlt : k < f.length
    · have hcx := (hnx.cell (p := ad.add k) (by rw [block_of_add]; exact had)).trans (hc k hlt)
      have hct := (hnx.cell (p := ⟨Bt, 0, none⟩) hTn).trans hBt
      by_cases hx : nth f k = t
      · have hpl : pre.length < f.length := by
          have h1 := congrArg List.length HP.out
          have h2 := frN_len f t k
          rw [ints_len] at h2
          rw [List.length_map] at h1
          omega
        obtain ⟨x, hxk⟩ : ∃ x : Th f t, x.1 = k := ⟨⟨k, hlt, hx⟩, rfl⟩
        obtain ⟨fn, tmps, assign, body, hy, hR⟩ := hY pre x wr hJs hpl
        rw [hxk] at hy
        have HN := hid (show (pre ++ [x]).map (·.1) = frN f t (k + 1) by rw [List.map_append, HP.out, frN_succ_yes hx, ← hxk]; rfl)
        rw [hx] at hcx
        clear hx hxk
        gi_wp2
        refine hR.mono ?_
        rintro e W3 (⟨rfl, hJ3, hk3⟩ | ⟨rfl, hJx3⟩)
        · gi_wp2
          go_roundw
          case rel => exact ⟨k + 1, _, by omega, by simp, HN, hJ3, hnx.trans hk3⟩
          case measure => simp [intOf]; omega
        · gi_wp2
          refine bodyPost_ret (results_none rfl _ _ _) rfl ?_
          exact ⟨⟨_, rfl⟩, .inr ⟨_, trivial, hJx3⟩⟩
      · have q1 : (nth f k == t) = false := by simpa using hx
        have HN := hid (show pre.map (·.1) = frN f t (k + 1) by rw [HP.out, frN_succ_no hx])
        clear hx
        generalize nth f k = X at *
        gi_wp2
        refine ⟨fun _ h => (by cases h), ?_⟩
        gi_wp2
        go_roundw
        case rel => exact ⟨k + 1, pre, by omega, by simp, HN, hJs, hnx⟩
        case measure => simp [intOf]; omega
    · obtain rfl : k = f.length := by omega
      gi_wp2
      go_end0
      exact ⟨⟨_, rfl⟩, .inl ⟨_, HP.out, hJs⟩⟩

end Go.Proofs.Ytjipecfoiddkjaa
