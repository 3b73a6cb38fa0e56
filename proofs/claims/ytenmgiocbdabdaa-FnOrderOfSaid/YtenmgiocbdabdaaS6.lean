/- Contracts of chapter 4: orders. -/
import Derived.Test.YtenmgiocbdabdaaS3
namespace Go.Proofs.Ytenmgiocbdabdaa
open Go.RowKit
set_option linter.unusedVariables false

def OrderR (w : World) (f : List Int) (e : Ending) (w' : World) : Prop := e = .returned (.tuple #[.int .i64 (orderV f), .bool (turnedB f)]) ∧ Below w.heap.size w w'
theorem orderR_yes {w w' : World} {f : List Int} (h : turnedB f = true) (hb : Below w.heap.size w w') : OrderR w f (.returned (.tuple #[.int .i64 (periodV f), .bool true])) w' := by
  refine ⟨?_, hb⟩
  rw [orderV, h, if_pos rfl]
theorem orderR_no {w w' : World} {f : List Int} (h : turnedB f = false) (hb : Below w.heap.size w w') : OrderR w f (.returned (.tuple #[.int .i64 (-1), .bool false])) w' := by
  refine ⟨?_, hb⟩
  rw [orderV, h, if_neg (by simp)]

theorem iOrderOf_c (A : Option Addr) (c : Nat) (f : List Int) (w : World) (hR : RdA w A f) (hn : f.length ≤ 1048577) :
    Calls Try.prog 79 #[.slice A f.length c] w (OrderR w f) := by
  have c1 := iTurnedOf_c A c f w hR hn
  by_cases ht : turnedB f = true
  · have HT := hid ht
    rw [ht] at c1
    have C2 := hid (fun W (hb : Below w.heap.size w W) => iPeriodOf_c A c f W (hR.below hb) hn)
    clear ht hR
    go_enter Try.func79, Try.ntmps79
    go_wp2_with fail
    refine c1.mono ?_; rintro e w2 ⟨A2, c2, rfl, -, b2, -⟩
    have k2 := hid (C2.out w2 b2)
    clear C2 c1
    go_wp2_with fail
    refine k2.out.mono ?_; rintro e w3 ⟨rfl, b3⟩
    go_wp2_with fail
    go_ret2
    exact orderR_yes HT.out (b2.trans (b3.mono b2.size))
  · have ht' : turnedB f = false := by simpa using ht
    have HT := hid ht'
    rw [ht'] at c1
    clear ht ht' hR
    go_enter Try.func79, Try.ntmps79
    go_wp2_with fail
    refine c1.mono ?_; rintro e w2 ⟨A2, c2, rfl, -, b2, -⟩
    clear c1
    go_wp2_with fail
    go_ret2
    exact orderR_no HT.out b2

theorem sOrderOf_c (A : Option Addr) (c : Nat) (f : List Int) (w : World) (hR : RdA w A f) (hn : f.length ≤ 1048577) :
    Calls Try.prog 78 #[.slice A f.length c] w (OrderR w f) := by
  have c1 := sMapOk_c A c f w hR hn
  by_cases hf : mapOkB f = true
  · rw [hf] at c1
    have c2 := sHighOf_c A c f w hR hn
    have hi := turned_high (good_of hf)
    by_cases ht : highV f ≤ 0
    · have HT := hid (hi.2 ht)
      have C2 := hid (fun W (hb : Below w.heap.size w W) => sPeriodOf_c A c f W (hR.below hb) hn)
      clear hf hR hi
      generalize highV f = H at *
      go_enter Try.func78, Try.ntmps78
      go_wp2_with fail
      refine c1.mono ?_; rintro e w' ⟨rfl, rfl⟩
      go_wp2_with fail
      refine c2.mono ?_; rintro e w2 ⟨rfl, b2⟩
      have k2 := hid (C2.out w2 b2)
      clear C2 c1 c2
      go_wp2_with fail
      refine k2.out.mono ?_; rintro e w3 ⟨rfl, b3⟩
      go_wp2_with fail
      go_ret2
      exact orderR_yes HT.out (b2.trans (b3.mono b2.size))
    · have HT := hid (show turnedB f = false by
        rcases h : turnedB f with _ | _
        · rfl
        · exact absurd (hi.1 h) ht)
      have ht' : 0 < highV f := by omega
      clear hf hR hi ht
      generalize highV f = H at *
      go_enter Try.func78, Try.ntmps78
      go_wp2_with fail
      refine c1.mono ?_; rintro e w' ⟨rfl, rfl⟩
      go_wp2_with fail
      refine c2.mono ?_; rintro e w2 ⟨rfl, b2⟩
      clear c1 c2
      go_wp2_with fail
      go_ret2
      exact orderR_no HT.out b2
  · have HT := hid (show turnedB f = false by simp [turnedB, hf])
    rw [show mapOkB f = false by simpa using hf] at c1
    clear hf hR
    go_enter Try.func78, Try.ntmps78
    go_wp2_with fail
    refine c1.mono ?_; rintro e w' ⟨rfl, rfl⟩
    go_wp2_with fail
    go_ret2
    exact orderR_no HT.out (Below.refl _ _)

end Go.Proofs.Ytenmgiocbdabdaa
