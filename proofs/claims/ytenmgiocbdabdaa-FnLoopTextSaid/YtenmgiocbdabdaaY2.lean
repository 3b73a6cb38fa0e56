/- The draws of a map and a thing; plain law: the count of what hangs on a thing. -/
import Derived.Test.YtenmgiocbdabdaaY1
import Derived.Test.YtenmgiocbdabdaaD5
namespace Go.Proofs.Ytenmgiocbdabdaa
open Go.RowKit
set_option linter.unusedVariables false

theorem DrawTreeText_c (a : Option Addr) (len cap : Nat) (zs : List Int) (w : World) (h : RowIn .u8 w a len cap zs) (hn : len ≤ 1048576) :
    Calls Try.prog 100 #[.slice a len cap] w (DrawI w 8) := by
  have ho := open_c a len cap zs w h hn
  clear h
  go_enter Try.func100, Try.ntmps100
  go_wp2_with fail
  refine ho.mono ?_
  rintro e w1 ⟨r, rfl, hr, hb, hr0, hr1⟩
  go_wp2_with fail
  refine (l20At_c r 0 w1 hr (by omega)).mono ?_
  rintro e w2 ⟨xs, A, c, z, hx, hz0, hz1, rfl, ho2, hr2, hg2⟩
  go_wp2_with fail
  go_ret2
  exact ⟨xs, A, c, z, hx, hz0, hz1, rfl, ho2.mono hb.size, below_pick hb hr0 hb.size hg2⟩
theorem DrawLoopText_c (a : Option Addr) (len cap : Nat) (zs : List Int) (w : World) (h : RowIn .u8 w a len cap zs) (hn : len ≤ 1048576) :
    Calls Try.prog 104 #[.slice a len cap] w (DrawI w 8) := by
  have ho := open_c a len cap zs w h hn
  clear h
  go_enter Try.func104, Try.ntmps104
  go_wp2_with fail
  refine ho.mono ?_
  rintro e w1 ⟨r, rfl, hr, hb, hr0, hr1⟩
  go_wp2_with fail
  refine (l20At_c r 0 w1 hr (by omega)).mono ?_
  rintro e w2 ⟨xs, A, c, z, hx, hz0, hz1, rfl, ho2, hr2, hg2⟩
  go_wp2_with fail
  go_ret2
  exact ⟨xs, A, c, z, hx, hz0, hz1, rfl, ho2.mono hb.size, below_pick hb hr0 hb.size hg2⟩

/-- so far: k has been followed j steps, and met neither t nor a loop before -/
def onWay (f : List Int) (t k j : Nat) : Prop := j ≤ tail f k ∧ ∀ i, i < j → it f i k ≠ t
theorem onWay_zero (f : List Int) (t k : Nat) : onWay f t k 0 := ⟨Nat.zero_le _, fun i h => by omega⟩
theorem onWay_succ {f : List Int} (hf : Good f) {t k j : Nat} (hk : k < f.length) (h : onWay f t k j) (h1 : it f j k ≠ t) (h2 : tail f (it f j k) ≠ 0) : onWay f t k (j + 1) := by
  rw [tail_it_eq hf hk] at h2
  refine ⟨by omega, fun i hi => ?_⟩
  rcases Nat.lt_succ_iff_lt_or_eq.1 hi with h3 | rfl
  · exact h.2 i h3
  · exact h1
theorem up_yes {f : List Int} (hf : Good f) {t k j : Nat} (hk : k < f.length) (h : onWay f t k j) (h1 : it f j k = t) : up f t k ∧ (k ≠ t → tail f k ≠ 0) := by
  have e := tail_it_eq hf hk j
  rw [h1] at e
  have hj := h.1
  refine ⟨⟨by omega, by rw [e, show tail f k - (tail f k - j) = j by omega]; exact h1⟩, fun h2 h3 => h2 ?_⟩
  obtain rfl : j = 0 := by omega
  exact h1
theorem up_no {f : List Int} (hf : Good f) {t k j : Nat} (hk : k < f.length) (h : onWay f t k j) (h1 : it f j k ≠ t) (h2 : tail f (it f j k) = 0) : ¬ up f t k := by
  rw [tail_it_eq hf hk] at h2
  obtain ⟨h3, h4⟩ := h
  rintro ⟨h5, h6⟩
  by_cases h7 : tail f t = 0
  · rw [h7, Nat.sub_zero, show tail f k = j by omega] at h6
    exact h1 h6
  · exact h4 (tail f k - tail f t) (by omega) h6
/-- of the first k things those that hang on t -/
def cntU (f : List Int) (t k : Nat) : Nat := sm (fun i => if up f t i then 1 else 0) k
theorem cntU_yes {f : List Int} {t k : Nat} (h : up f t k) : cntU f t (k + 1) = cntU f t k + 1 := by rw [cntU, sm, if_pos h]; rfl
theorem cntU_no {f : List Int} {t k : Nat} (h : ¬ up f t k) : cntU f t (k + 1) = cntU f t k := by rw [cntU, sm, if_neg h]; rfl
theorem cntU_le (f : List Int) (t k : Nat) : cntU f t k ≤ k := sm_one_le _ (fun k => by split <;> omega) k
theorem childs_none {f : List Int} {t : Nat} (h : frN f t f.length = []) : childs f t f.length = [] := by
  rw [List.eq_nil_iff_forall_not_mem]
  intro x hx
  obtain ⟨h1, h2, _⟩ := mem_childs.1 hx
  have : x ∈ frN f t f.length := by rw [frN]; simp [h1, h2]
  rw [h] at this
  simp at this

end Go.Proofs.Ytenmgiocbdabdaa
