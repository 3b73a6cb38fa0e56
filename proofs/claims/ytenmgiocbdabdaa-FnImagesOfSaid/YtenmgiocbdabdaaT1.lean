/- Contracts: all maps of few things. -/
import Derived.Test.YtenmgiocbdabdaaS4
import Derived.Test.YtenmgiocbdabdaaR3
import Derived.Laws.AppendOwnNone
namespace Go.Proofs.Ytenmgiocbdabdaa
open Go.RowKit
set_option linter.unusedVariables false

/-- a row with each number behind it -/
def ext1 (T : Nat) (r : List Int) : List (List Int) := (List.range T).map fun (x : Nat) => r ++ [(x : Int)]
def allK (T : Nat) : Nat → List (List Int)
  | 0 => [[]]
  | k + 1 => (allK T k).flatMap (ext1 T)
def nextL (T : Nat) (rows : List (List Int)) (i : Nat) : List (List Int) := (rows.take i).flatMap (ext1 T)
def partL (T : Nat) (rows : List (List Int)) (i x : Nat) : List (List Int) := nextL T rows i ++ (List.range x).map fun (x : Nat) => gl rows i ++ [(x : Int)]
theorem partL_zero (T : Nat) (rows : List (List Int)) (i : Nat) : partL T rows i 0 = nextL T rows i := by simp [partL]
theorem partL_succ (T : Nat) (rows : List (List Int)) (i x : Nat) : partL T rows i (x + 1) = partL T rows i x ++ [gl rows i ++ [(x : Int)]] := by
  rw [partL, partL, List.range_succ, List.map_append, List.append_assoc]; rfl
theorem partL_all (T : Nat) (rows : List (List Int)) (i : Nat) (h : i < rows.length) : partL T rows i T = nextL T rows (i + 1) := by
  have e : gl rows i = rows[i] := by rw [gl, List.getD_eq_getElem?_getD, List.getElem?_eq_getElem h]; rfl
  rw [partL, nextL, nextL, List.take_succ_eq_append_getElem h, List.flatMap_append, e]
  simp [ext1]
theorem nextL_all (T : Nat) (rows : List (List Int)) : nextL T rows rows.length = rows.flatMap (ext1 T) := by rw [nextL, List.take_length]
theorem nextL_len (T : Nat) (rows : List (List Int)) : ∀ i, i ≤ rows.length → (nextL T rows i).length = i * T
  | 0, _ => by simp [nextL]
  | i + 1, h => by
    rw [← partL_all T rows i (by omega), partL, List.length_append, nextL_len T rows i (by omega), List.length_map, List.length_range, Nat.succ_mul]
theorem partL_len (T : Nat) (rows : List (List Int)) (i x : Nat) (h : i ≤ rows.length) : (partL T rows i x).length = i * T + x := by
  rw [partL, List.length_append, nextL_len T rows i h, List.length_map, List.length_range]
theorem allK_len (T : Nat) : ∀ k, (allK T k).length = T ^ k
  | 0 => rfl
  | k + 1 => by rw [allK, ← nextL_all, nextL_len _ _ _ (Nat.le_refl _), allK_len T k, Nat.pow_succ]
theorem allK_row (T : Nat) : ∀ k, ∀ r ∈ allK T k, r.length = k ∧ ∀ z ∈ r, 0 ≤ z ∧ z < T
  | 0, r, h => by
    simp [allK] at h
    subst h
    simp
  | k + 1, r, h => by
    rw [allK, List.mem_flatMap] at h
    obtain ⟨s, hs, hr⟩ := h
    obtain ⟨x, hx, rfl⟩ := List.mem_map.1 hr
    have hx := List.mem_range.1 hx
    obtain ⟨h1, h2⟩ := allK_row T k s hs
    refine ⟨by simp [h1], fun z hz => ?_⟩
    rcases List.mem_append.1 hz with h3 | h3
    · exact h2 z h3
    · simp at h3
      subst h3
      omega
theorem gl_mem {rows : List (List Int)} {i : Nat} (h : i < rows.length) : gl rows i ∈ rows := by
  rw [gl, List.getD_eq_getElem?_getD, List.getElem?_eq_getElem h]; exact List.getElem_mem h
theorem allK_good {T : Nat} (h1 : 1 ≤ T) (h4 : T ≤ 4) {r : List Int} (hr : r ∈ allK T T) : Good r ∧ r.length = T := by
  obtain ⟨e, h⟩ := allK_row T T r hr
  refine ⟨⟨by omega, fun k hk => ?_⟩, e⟩
  have := h _ (nth_mem hk)
  omega
theorem allK_bound {T k : Nat} (hT : T ≤ 4) (hk : k ≤ 4) : (allK T k).length ≤ 256 := by
  rw [allK_len]
  exact Nat.le_trans (Nat.pow_le_pow_left hT k) (Nat.pow_le_pow_right (n := 4) (by omega) hk)

/-- append of a slice that is owned onto an empty one -/
theorem wpList_appO {ops : Array Oper} {rest : List Oper} {o : Oper} {a : Act} {Q : Exit → Act → World → Prop} (w : World) (hgd : o.guard = none) (s x : Operand)
    (ho : o.op = .call { callee := .builtin .append, args := #[s, x], argTypes := #[23, 23] })
    (base B' : Nat) (v : Value) (hs : a.eval s = v) (hown : Own base w v []) (D : Option Addr) (ys : List Int) (c : Nat) (hx : a.eval x = .slice D ys.length c)
    (hr : Own B' w (.slice D ys.length c) ys) (hlen : ys.length ≤ 1000000000) (hbase : base ≤ w.heap.size)
    (hK : ∀ A c w', Own base w' (.slice A ys.length c) ys → Below base w w' → wpList Try.prog ops Q rest (a.put o.dst (.slice A ys.length c)) w') : wpList Try.prog ops Q (o :: rest) a w := by
  have hr2 := hr.2
  rcases hr2 with ⟨e, h0⟩ | ⟨g, cap, cur, e, _⟩
  · have hy : ys = [] := List.eq_nil_of_length_eq_zero h0
    subst hy
    obtain ⟨i0, hi, hz0, hz1, hz2⟩ := info_parts info_int
    refine wpList_append_own_none hgd s x 23 ho base 3 i0 1 Try.underlying23 hi v 0 [] hs hown (by rw [hx, e]) ?_
    obtain ⟨A, c', e2, _⟩ := hown.form
    rw [e2] at hown ⊢
    exact hK A c' w hown (Below.refl _ _)
  · injection e with e1 e2 e3
    subst e1
    exact wpList_appE w hgd s x ho base v hs hown ⟨g, 0, none⟩ ys c hx (fun k hk => by rw [add_g]; exact hr.cell hk) hlen hbase hK

set_option maxHeartbeats 4000000 in
theorem allMaps_c (T : Nat) (w : World) (h1 : 1 ≤ T) (h4 : T ≤ 4) : Calls Try.prog 58 #[.int .i64 T] w (RetRR w (allK T T)) := by
  go_enter Try.func58, Try.ntmps58
  go_wp2_with fail
  have b0 : Below w.heap.size w ((w.alloc (.cells #[] 3)).alloc (.cells #[.slice (some ⟨w.heap.size, 0, none⟩) 0 0] 23)) := ((Below.refl _ _).alloc (Nat.le_refl _) _).alloc (by simp) _
  have o0 : OwnRR w.heap.size ((w.alloc (.cells #[] 3)).alloc (.cells #[.slice (some ⟨w.heap.size, 0, none⟩) 0 0] 23)) (.slice (some ⟨w.heap.size + 1, 0, none⟩) 1 1) (allK T 0) := by
    refine ⟨[.slice (some ⟨w.heap.size, 0, none⟩) 0 0], ?_, rfl, fun k hk => ?_⟩
    · have := World.ownsRow_lit (base := w.heap.size) (e := 23) (size := 1) (w.alloc (.cells #[] 3)) #[.slice (some ⟨w.heap.size, 0, none⟩) 0 0] 1 (by simp) (by decide) (by simp)
      unfold RowR
      simpa using this
    · obtain rfl : k = 0 := by simp [allK] at hk; omega
      exact ⟨_, 0, rfl, (own_empty w).alloc _⟩
  go_loopw [3, 4] (fun v i wr => ∃ k : Nat, k ≤ T ∧ i = .int .i64 k ∧ OwnRR w.heap.size wr v (allK T k) ∧ Below w.heap.size w wr) (fun _ i _ => T - (intOf i).toNat)
  case atStart => exact ⟨0, Nat.zero_le _, rfl, o0, b0⟩
  case round =>
    clear o0 b0
    obtain ⟨k, hk, rfl, ho, hb⟩ := hrel
    by_cases hlt : k < T
    · have HA := hid (show allK T (k + 1) = (allK T k).flatMap (ext1 T) from rfl)
      have HB := hid (allK_bound h4 (show k ≤ 4 by omega))
      have HR := hid (fun i (hi : i < (allK T k).length) => (show (gl (allK T k) i).length ≤ 4 by rw [(allK_row T k _ (gl_mem hi)).1]; omega))
      have hsz := hb.size
      obtain ⟨D0, d0, rfl⟩ := ho.form
      have hle : (allK T k).length ≤ 256 := HB.out
      generalize allK T k = rows at *
      have o1 := OwnRR.new_ wr
      have b1 : Below wr.heap.size wr (wr.alloc (.cells #[] 23)) := (Below.refl _ _).alloc (Nat.le_refl _) _
      have HO := hid ho
      have HBB := hid hb
      clear ho hb
      go_wp2_with fail
      generalize hw0 : wr = w0 at *
      clear hw0
      go_loopw [5, 6] (fun v i wr => ∃ i' : Nat, i' ≤ rows.length ∧ i = .int .i64 i' ∧ OwnRR w0.heap.size wr v (nextL T rows i') ∧ Below w0.heap.size w0 wr) (fun _ i _ => rows.length - (intOf i).toNat)
      case atStart => exact ⟨0, Nat.zero_le _, rfl, o1, b1⟩
      case round =>
        clear o1 b1
        obtain ⟨i, hi, rfl, hn, hb1⟩ := hrel
        by_cases hli : i < rows.length
        · have HN := hid (partL_all T rows i hli)
          have HL := hid (fun x => partL_len T rows i x hi)
          have hm := Nat.mul_le_mul (show i ≤ 256 by omega) h4
          rw [← partL_zero] at hn
          go_wp2_with fail
          go_loopw [5, 7] (fun v x wr => ∃ x' : Nat, x' ≤ T ∧ x = .int .i64 x' ∧ OwnRR w0.heap.size wr v (partL T rows i x') ∧ Below w0.heap.size w0 wr) (fun _ x _ => T - (intOf x).toNat)
          case atStart => exact ⟨0, Nat.zero_le _, rfl, hn, hb1⟩
          case round =>
            clear hn hb1
            obtain ⟨x, hx, rfl, hn, hb1⟩ := hrel
            by_cases hlx : x < T
            · obtain ⟨g, D, d, e9, -, hc, hod⟩ := ((HO.out.below hb1).alloc (.cells #[] 3)).at_ hli
              cases e9
              have HP := hid (partL_succ T rows i x)
              have hpl : (partL T rows i x).length ≤ 10000 := by rw [HL.out x]; omega
              have hyl := HR.out i hli
              generalize gl rows i = ys at *
              generalize partL T rows i x = P at *
              have oe := own_empty wr
              have hsz1 := hb1.size
              go_wp2_with (first
                | (at_builtin; refine wpList_appO _ rfl _ _ rfl wr.heap.size _ _ rfl oe D ys d rfl hod (by omega) (by simp) ?_; clear oe; intro A1 c1 w1 oi bi; have bi' : Below wr.heap.size wr w1 := ((Below.refl _ wr).alloc (Nat.le_refl _) _).trans bi; have hszi := bi'.size; clear bi hod hc)
                | (at_builtin; refine wpList_app1 _ rfl _ _ rfl wr.heap.size _ ys rfl (oi.alloc _) w1.heap.size (x : Int) rfl (cell_one1 _ _ _) (by omega) (by simp <;> omega) ?_; clear oi; intro A2 c2 w2 o2 b2; have b2' : Below wr.heap.size wr w2 := bi'.trans (((Below.refl _ w1).alloc hszi _).trans b2); have hsz2 := b2'.size; have hn2 := hn.below b2'; have o2' := o2.mono hsz1; rw [show ys.length + 1 = (ys ++ [(x : Int)]).length by simp] at o2' ⊢; clear b2 bi' hszi hn o2; generalize ys ++ [(x : Int)] = zs at *)
                | (at_builtin; refine wpList_appR _ rfl _ _ rfl w0.heap.size _ P rfl (hn2.alloc _) w2.heap.size A2 c2 zs (o2'.alloc _) rfl (cell_oneS _ _ _) (by omega) (by simp <;> omega) ?_; intro A4 c4 w4 o4 b4))
              have hb2 := hb1.trans (b2'.mono hsz1)
              have b4' : Below w0.heap.size w0 w4 := (hb2.alloc hb2.size _).trans b4
              clear b4 hb2
              go_wp2_with fail
              go_roundw
              case rel => exact ⟨x + 1, by omega, by go_num, by rw [HP.out]; exact o4, b4'⟩
              case measure => simp [intOf]; omega
            · obtain rfl : x = T := by omega
              rw [HN.out] at hn
              obtain ⟨A4, c4, rfl⟩ := hn.form
              go_wp2_with fail
              go_roundw
              case rel => exact ⟨i + 1, by omega, by go_num, hn, hb1⟩
              case measure => simp [intOf]; omega
        · obtain rfl : i = rows.length := by omega
          rw [nextL_all, ← HA.out] at hn
          have hn := hn.mono hsz
          have hb2 := HBB.out.trans (hb1.mono hsz)
          obtain ⟨A4, c4, rfl⟩ := hn.form
          clear hb1
          go_wp2_with fail
          go_roundw
          case rel => exact ⟨k + 1, by omega, by go_num, hn, hb2⟩
          case measure => simp [intOf]; omega
    · obtain rfl : k = T := by omega
      obtain ⟨A4, c4, rfl⟩ := ho.form
      go_wp2_with fail
      go_ret
      exact retRR_own ho hb

end Go.Proofs.Ytenmgiocbdabdaa
