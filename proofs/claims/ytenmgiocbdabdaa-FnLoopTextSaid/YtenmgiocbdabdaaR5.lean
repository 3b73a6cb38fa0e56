/- Contracts of chapter 4: the period, with its closure. -/
import Derived.Test.YtenmgiocbdabdaaR4
import Derived.Test.YtenmgiocbdabdaaA4
import Derived.Deep.RegionWith
namespace Go.Proofs.Ytenmgiocbdabdaa
open Go.RowKit
set_option linter.unusedVariables false

theorem results_none {fn : Func} (h : fn.results = #[]) (tmps : Array Value) (P : Program) (w : World) : (results fn tmps).run P w = .ok (.tuple #[]) w := by
  simp [results, h]

set_option maxHeartbeats 1000000 in
theorem iPeriodFold_c (g P Z : Nat) (w : World) (hc : w.cell? ⟨g, 0, none⟩ = some (.int .i64 P)) (hf : w.frozen? ⟨g, 0, none⟩ = false) (hP : 1 ≤ P ∧ P ≤ 1000000) (hZ : Z ≤ 1000) :
    Calls Try.prog 145 #[.int .i64 Z, .pointer (some ⟨g, 0, none⟩)] w fun e w' => ∃ w1, Below w.heap.size w w1 ∧ e = .returned (.tuple #[]) ∧ w' = w1.setCell ⟨g, 0, none⟩ (.int .i64 (P / Nat.gcd P Z * Z : Nat)) := by
  have hgp := Nat.gcd_pos_of_pos_left Z (show 0 < P by omega)
  have hg : g < w.heap.size := lt_of_cell hc
  have hl : P / Nat.gcd P Z ≤ 1000000 := Nat.le_trans (Nat.div_le_self _ _) hP.2
  have C := hid (fun W => iCommon_c P Z W (by omega) (by omega))
  have q0 : (((Nat.gcd P Z : Nat) : Int) == 0) = false := by simp; omega
  have e3 : Int.tdiv (P : Int) ((Nat.gcd P Z : Nat) : Int) = ((P / Nat.gcd P Z : Nat) : Int) := by rw [Int.tdiv_eq_ediv_of_nonneg (by omega)]; exact (Int.natCast_ediv P _).symm
  have e4 : (P : Int) / ((Nat.gcd P Z : Nat) : Int) = ((P / Nat.gcd P Z : Nat) : Int) := (Int.natCast_ediv P _).symm
  generalize P / Nat.gcd P Z = Q at *
  generalize Nat.gcd P Z = G at *
  have hl2 := Nat.mul_le_mul hl hZ
  have e1 : IntKind.i64.wrap (Q : Int) = (Q : Int) := IntWalk.i64_in _ (by omega)
  have e2 : IntKind.i64.wrap ((Q : Int) * (Z : Int)) = ((Q * Z : Nat) : Int) := by rw [← Int.natCast_mul]; exact IntWalk.i64_in _ (by omega)
  go_enter Try.func145, Try.ntmps145
  have hb0 : Below w.heap.size w w := Below.refl _ _
  go_region_with (go_at_call 146; refine (C.out _).mono ?_; rintro e w1 ⟨rfl, hbN⟩; have hc1 := (hbN.cell hg).trans hc; have hf1 := (hbN.frozen hg).trans hf)
  all_goals refine bodyPost_end (results_none rfl _ _ _) rfl ?_
  all_goals exact ⟨_, hb0.drew.trans (by assumption), rfl, by rw [Int.natCast_mul]⟩

set_option maxHeartbeats 1000000 in
theorem iPeriodOf_c (A : Option Addr) (c : Nat) (f : List Int) (w : World) (hR : RdA w A f) (hn : f.length ≤ 1048577) :
    Calls Try.prog 89 #[.slice A f.length c] w fun e w' => e = .returned (.int .i64 (periodV f)) ∧ Below w.heap.size w w' := by
  have c1 := iMapOk_c A c f w hR hn
  by_cases hf : mapOkB f = true
  · rw [hf] at c1
    have HE := hid (show periodV f = (per (loopsLL f) (loopsLL f).length : Int) from if_pos hf)
    have h7 := (good_of hf).1.2
    have hba : Below w.heap.size w (w.alloc (.cells #[.int .i64 1] 3)) := (Below.refl _ _).alloc (Nat.le_refl _) _
    have hca := cell_new1 w (.int .i64 1) 3
    have hfa : (w.alloc (.cells #[.int .i64 1] 3)).frozen? ⟨w.heap.size, 0, none⟩ = false := frozen_of_row _ _ 0 _ _ (heap_alloc_new w _)
    have hsa : w.heap.size < (w.alloc (.cells #[.int .i64 1] 3)).heap.size := by simp
    have C2 := hid (fun W (hb : Below w.heap.size w W) => iLoopsOf_c A c f W (hR.below hb) hn)
    have HLO := hid (fun j (h : j < (loopsLL f).length) => loops_long (good_of hf) h)
    have HB := hid (per_bound (loopsLL f) fun j hj => ⟨(HLO.out j hj).1, by have := (HLO.out j hj).2; omega⟩)
    have hle := loopsLL_len f h7
    clear hf hR
    generalize loopsLL f = L at *
    have hmf : ∀ (fn : Fn) (first cap : Array Value) (w : World), (Instr.makeFunc fn first cap).run Try.prog w = .ok (.func fn first cap) w := fun _ _ _ _ => rfl
    go_enter Try.func89, Try.ntmps89
    go_wp2_with fail
    refine c1.mono ?_; rintro e w' ⟨rfl, rfl⟩
    clear c1
    have k2 := hid (C2.out _ hba)
    clear C2
    go_wp2_with fail
    refine k2.out.mono ?_; rintro e w2 ⟨D, d, rfl, hrr, hb2⟩
    have hc2 := (hb2.cell hsa).trans hca
    have hf2 := (hb2.frozen hsa).trans hfa
    have hb2' := hba.trans (hb2.mono (Nat.le_of_lt hsa))
    clear k2 hca hfa hb2 hba
    generalize (w.alloc (.cells #[.int .i64 1] 3)).heap.size = B at *
    go_wp2_with fail
    go_loopw [14] (fun i wr => ∃ k : Nat, k ≤ L.length ∧ i = .int .i64 k ∧ wr.cell? ⟨w.heap.size, 0, none⟩ = some (.int .i64 (per L k : Nat)) ∧ wr.frozen? ⟨w.heap.size, 0, none⟩ = false ∧ OwnRR B wr (.slice D L.length d) L ∧ Below w.heap.size w wr) (fun i _ => L.length - (intOf i).toNat)
    case atStart => exact ⟨0, Nat.zero_le _, rfl, hc2, hf2, hrr, hb2'⟩
    case round =>
      clear hc2 hf2 hrr hb2'
      obtain ⟨k, hk, rfl, hcell, hfr, hrr, hb⟩ := hrel
      by_cases hlt : k < L.length
      · obtain ⟨g, E, e0, rfl, hg, hc, -⟩ := hrr.at_ hlt
        obtain ⟨hl1, hl2⟩ := HLO.out k hlt
        obtain ⟨hp1, hp2⟩ := HB.out k (by omega)
        have hp3 := pow7 k (by omega)
        have c3 := hid (iPeriodFold_c w.heap.size (per L k) (gl L k).length wr hcell hfr ⟨hp1, by omega⟩ (by omega))
        rw [show per L k / Nat.gcd (per L k) (gl L k).length * (gl L k).length = per L (k + 1) from rfl] at c3
        have HC := hid hcell
        clear hcell
        generalize hP' : per L (k + 1) = P' at *
        have KP := hid hP'
        clear hP'
        generalize per L k = P at *
        generalize (gl L k).length = Z at *
        go_wp2_with fail
        refine c3.out.mono ?_; rintro e w4 ⟨w3, hb3, rfl, rfl⟩
        have hlt3 := lt_of_cell HC.out
        have hcs := (World.cell?_setCell_same w3 ⟨w.heap.size, 0, none⟩ (.int .i64 (P' : Nat)) ((hb3.cell hlt3).trans HC.out))
        have hrr3 := (hrr.below hb3).kept (grown_store (World.grownBy.refl _ _) 0 (.int .i64 (P' : Nat))) hsa
        have hb4 := (hb.trans (hb3.mono hb.size)).setCell (p := ⟨w.heap.size, 0, none⟩) (Nat.le_refl _) (.int .i64 (P' : Nat))
        have hf4 : (w3.setCell ⟨w.heap.size, 0, none⟩ (.int .i64 (P' : Nat))).frozen? ⟨w.heap.size, 0, none⟩ = false := by simp; exact (hb3.frozen (lt_of_cell HC.out)).trans hfr
        go_wp2_with fail
        go_roundw
        case rel => exact ⟨k + 1, by omega, by go_num, by rw [KP.out]; exact hcs, hf4, hrr3, hb4⟩
        case measure => simp [intOf]; omega
      · obtain rfl : k = L.length := by omega
        rw [← HE.out] at hcell
        go_wp2_with fail
        go_ret
        exact ⟨rfl, hb⟩
  · have HE := hid (show periodV f = -1 from if_neg hf)
    rw [show mapOkB f = false by simpa using hf] at c1
    clear hf hR
    go_enter Try.func89, Try.ntmps89
    go_wp2_with fail
    refine c1.mono ?_; rintro e w' ⟨rfl, rfl⟩
    go_wp2_with fail
    go_ret
    exact ⟨ret_int HE.out.symm, Below.refl _ _⟩

end Go.Proofs.Ytenmgiocbdabdaa
