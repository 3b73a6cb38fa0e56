/- What collects what an iterator yields; the things led to a thing; the image. -/
import Derived.Test.YtjipecfoiddkjaaI1
import Derived.Maps.AppendAt
namespace Go.Proofs.Ytjipecfoiddkjaa
open Go.RowKit Go.Shelf
set_option linter.unusedVariables false
attribute [local go_sem] Oper.semAt_some

theorem from_stops (n : Nat) (hn : 1 ≤ n) (Bs Bt n₀ cap : Nat) (ad : Addr) (f : List Int) (t : Int) (h7 : f.length ≤ 7) (had : ad.block < n₀) (hBn : Bs < n₀) (hTn : Bt < n₀) (w : World) (hn₀ : n₀ ≤ w.heap.size)
    (hBs : w.cell? ⟨Bs, 0, none⟩ = some (.slice (some ad) f.length cap)) (hBt : w.cell? ⟨Bt, 0, none⟩ = some (.int .i64 t)) (hc : ∀ k, k < f.length → w.cell? (ad.add k) = some (.int .i64 (nth f k))) :
    SeqStopsK Fence.wide n Try.prog 69 #[.pointer (some ⟨Bs, 0, none⟩), .pointer (some ⟨Bt, 0, none⟩)] (fun x : Th f t => #[Value.int .i64 (x.1 : Nat)]) (Below n₀) (fun ys => ys.map (·.1) = frN f t f.length) (fun _ => True) f.length w := fun l J Jx W hW _ _ hY h0 =>
  from1_in n hn l Bs Bt n₀ cap ad f t h7 had hBn hTn J Jx hY W ((hW.cell (p := ⟨Bs, 0, none⟩) (by show Bs < _; omega)).trans hBs) ((hW.cell (p := ⟨Bt, 0, none⟩) (by show Bt < _; omega)).trans hBt)
    (fun k hk => (hW.cell (p := ad.add k) (by rw [block_of_add]; omega)).trans (hc k hk)) h0
theorem from_c (A : Option Addr) (n c : Nat) (t : Int) (w : World) :
    Calls Try.prog 62 #[.slice A n c, .int .i64 t] w fun e w' => e = .returned (.func (.func 69) #[] #[.pointer (some ⟨w.heap.size, 0, none⟩), .pointer (some ⟨w.heap.size + 1, 0, none⟩)]) ∧
      w' = (w.alloc (.cells #[.slice A n c] 51)).alloc (.cells #[.int .i64 t] 3) := by
  have hmf : ∀ (fn : Fn) (first cap : Array Value) (w : World), (Instr.makeFunc fn first cap).run Try.prog w = .ok (.func fn first cap) w := fun _ _ _ _ => rfl
  go_enter Try.func62, Try.ntmps62
  go_wp2_with fail
  go_ret
  exact ⟨rfl, rfl⟩


end Go.Proofs.Ytjipecfoiddkjaa
