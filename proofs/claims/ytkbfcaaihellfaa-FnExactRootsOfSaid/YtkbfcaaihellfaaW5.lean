/- Steps on the way to the law; each part says what it proves. -/
import Derived.Test.YtkbfcaaihellfaaW4
import Derived.Deep.RegionHeld3
import Derived.Laws.AppendOwnNone
import Derived.Test.YtkbfcaaihellfaaU23
import Derived.Maps.AppendAt
import Derived.Test.YtkbfcaaihellfaaW1

set_option linter.unusedSimpArgs false

/- Contracts: rows of rows compared. -/
namespace Go.Proofs.Ytkbfcaaihellfaa
open Go.RowKit
set_option linter.unusedVariables false

theorem RdRR.below {w w' : World} {A : Option Addr} {xss : List (List Int)} (h : RdRR w A xss) (hb : Below w.heap.size w w') : RdRR w' A xss := fun k hk => by
  obtain ⟨ad, D, d, e, h1, h2⟩ := h k hk
  exact ⟨ad, D, d, e, (hb.cell (cell_lt h1)).trans h1, h2.below hb⟩
theorem keepR {wr w1 w2 : World} {p q : Addr} {x y : Value} (h1 : Below wr.heap.size wr w1) (h2 : w1.cell? p = some x) (h3 : w1.cell? q = some y) (hb : Below w1.heap.size w1 w2) : Below wr.heap.size wr w2 ∧ w2.cell? p = some x ∧ w2.cell? q = some y :=
  ⟨h1.trans (hb.mono h1.size), (hb.cell (cell_lt h2)).trans h2, (hb.cell (cell_lt h3)).trans h3⟩
theorem rows_step {xss yss : List (List Int)} {k : Nat} (hl : xss.length = yss.length) (hk : k < xss.length) (h : xss.take k = yss.take k) (he : gl xss k = gl yss k) : xss.take (k + 1) = yss.take (k + 1) := by
  rw [takeS hk, takeS (by omega), h, he]
theorem rows_ne {xss yss : List (List Int)} {k : Nat} (he : gl xss k ≠ gl yss k) : xss ≠ yss := fun e => he (by rw [e])

set_option maxHeartbeats 2000000 in
theorem sameRows_c (A B : Option Addr) (c d : Nat) (xss yss : List (List Int)) (w : World) (hR : RdRR w A xss) (hS : RdRR w B yss) (hn : xss.length ≤ 1048577) (hm : yss.length ≤ 1048577) (hr : ∀ k, k < xss.length → (gl xss k).length ≤ 1048577) (hs : ∀ k, k < yss.length → (gl yss k).length ≤ 1048577) :
    Calls Try.prog 20 #[.slice A xss.length c, .slice B yss.length d] w fun e w' => e = .returned (.bool (decide (xss = yss))) ∧ Below w.heap.size w w' := by
  by_cases hl : xss.length = yss.length
  · have hl' : ((xss.length : Int) == (yss.length : Int)) = true := by simp [hl]
    have HL := hid hl
    have e1 : yss.length = xss.length := hl.symm
    rw [e1] at hl' hm ⊢
    clear e1 hl
    have HR := hid hr
    have HS := hid hs
    clear hr hs
    go_enter Try.func20, Try.ntmps20
    go_wp2_with fail
    go_loopw [5] (fun i wr => ∃ k : Nat, k ≤ xss.length ∧ i = .int .i64 k ∧ Hid (xss.take k = yss.take k) ∧ Below w.heap.size w wr) (fun i _ => xss.length - (intOf i).toNat)
    case atStart => exact ⟨0, Nat.zero_le _, rfl, rfl, Below.refl _ _⟩
    case round =>
      obtain ⟨k, hk, rfl, HT, hb⟩ := hrel
      by_cases hlt : k < xss.length
      · obtain ⟨ad, D, d1, rfl, hc, hrd⟩ := (hR.below hb) k hlt
        obtain ⟨bd, E, d2, rfl, hc2, hrd2⟩ := (hS.below hb) k (by have := HL.out; omega)
        have C := hid (fun W (h : Below wr.heap.size wr W) => sameInts_c D E d1 d2 (gl xss k) (gl yss k) W (hrd.below h) (hrd2.below h) (HR.out k hlt) (HS.out k (by have := HL.out; omega)))
        have HB := hid hb
        clear hR hS hrd hrd2 hb
        by_cases he : gl xss k = gl yss k
        · have HE := hid (rows_step HL.out hlt HT.out he)
          rw [decide_eq_true he] at C
          clear he
          generalize (gl xss k).length = n1 at *
          generalize (gl yss k).length = n2 at *
          go_wp2_with fail
          go_region_held3 (fun w' => Below wr.heap.size wr w' ∧ w'.cell? (ad.add k) = some (.slice D n1 d1) ∧ w'.cell? (bd.add k) = some (.slice E n2 d2))
            (first | exact ⟨(Below.refl _ _).drew, hc, hc2⟩ | (go_split_ands; exact keepR (by assumption) (by assumption) (by assumption) hbN))
            ((go_at_call 22; refine (C.out _ (by first | assumption | exact (Below.refl _ _).drew | exact And.left (by assumption))).mono ?_; rintro e w1 ⟨rfl, hbN⟩))
          have hb2 := HB.out.trans (Below.mono (And.left (by assumption)) HB.out.size)
          go_wp2_with fail
          go_roundw
          case rel => exact ⟨k + 1, by omega, by go_num, HE, hb2⟩
          case measure => simp [intOf]; omega
        · have HE := hid (rows_ne he)
          rw [decide_eq_false he] at C
          clear he
          generalize (gl xss k).length = n1 at *
          generalize (gl yss k).length = n2 at *
          go_wp2_with fail
          go_region_held3 (fun w' => Below wr.heap.size wr w' ∧ w'.cell? (ad.add k) = some (.slice D n1 d1) ∧ w'.cell? (bd.add k) = some (.slice E n2 d2))
            (first | exact ⟨(Below.refl _ _).drew, hc, hc2⟩ | (go_split_ands; exact keepR (by assumption) (by assumption) (by assumption) hbN))
            ((go_at_call 22; refine (C.out _ (by first | assumption | exact (Below.refl _ _).drew | exact And.left (by assumption))).mono ?_; rintro e w1 ⟨rfl, hbN⟩))
          have hb2 := HB.out.trans (Below.mono (And.left (by assumption)) HB.out.size)
          go_wp2_with fail
          go_ret
          exact ⟨ret_bool (by simp [HE.out]), hb2⟩
      · obtain rfl : k = xss.length := by omega
        go_wp2_with fail
        go_ret
        refine ⟨ret_bool ?_, hb⟩
        have := HT.out
        rw [List.take_length, HL.out, List.take_length] at this
        simp [this]
  · have hl' : ((xss.length : Int) == (yss.length : Int)) = false := by simp; omega
    have HL := hid hl
    clear hl
    go_enter Try.func20, Try.ntmps20
    go_wp2_with fail
    go_ret
    exact ⟨ret_bool (by simp; intro e; exact HL.out (by rw [e])), Below.refl _ _⟩
end Go.Proofs.Ytkbfcaaihellfaa

/- Words for rows of slices that are handed back. -/
namespace Go.Proofs.Ytkbfcaaihellfaa
open Go.RowKit
set_option linter.unusedVariables false

def RetRR (w : World) (xss : List (List Int)) (e : Ending) (w' : World) : Prop := ∃ A c, e = .returned (.slice A xss.length c) ∧ OwnRR w.heap.size w' (.slice A xss.length c) xss ∧ Below w.heap.size w w'
theorem retRR_own {w wr : World} {v : Value} {L : List (List Int)} (ho : OwnRR w.heap.size wr v L) (hb : Below w.heap.size w wr) : RetRR w L (.returned v) wr := by
  obtain ⟨A, c, rfl⟩ := ho.form
  exact ⟨A, c, rfl, ho, hb⟩
theorem cell_oneS (w : World) (v : Value) (t : TypeId) : (w.alloc (.cells #[v] t)).cell? ⟨w.heap.size, 0, none⟩ = some v := by
  rw [World.cell?_alloc_at _ _ _ _ rfl]; rfl
end Go.Proofs.Ytkbfcaaihellfaa

/- Contracts: all maps of few things. -/
namespace Go.Proofs.Ytkbfcaaihellfaa
open Go.RowKit
set_option linter.unusedVariables false

/-- a row with each number behind it -/
def ext1 (T : Nat) (r : List Int) : List (List Int) := (List.range T).map fun (x : Nat) => r ++ [(x : Int)]
def allK (T : Nat) : Nat → List (List Int)
  | 0 => [[]]
  | k + 1 => (allK T k).flatMap (ext1 T)
def nextL (T : Nat) (rows : List (List Int)) (i : Nat) : List (List Int) := (rows.take i).flatMap (ext1 T)
def partL (T : Nat) (rows : List (List Int)) (i x : Nat) : List (List Int) := nextL T rows i ++ (List.range x).map fun (x : Nat) => gl rows i ++ [(x : Int)]
theorem partL_zero (T : Nat) (rows : List (List Int)) (i : Nat) : partL T rows i 0 = nextL T rows i := by simp [partL]
theorem partL_succ (T : Nat) (rows : List (List Int)) (i x : Nat) : partL T rows i (x + 1) = partL T rows i x ++ [gl rows i ++ [(x : Int)]] := by
  rw [partL, partL, List.range_succ, List.map_append, List.append_assoc]; rfl
theorem partL_all (T : Nat) (rows : List (List Int)) (i : Nat) (h : i < rows.length) : partL T rows i T = nextL T rows (i + 1) := by
  have e : gl rows i = rows[i] := by rw [gl, List.getD_eq_getElem?_getD, List.getElem?_eq_getElem h]; rfl
  rw [partL, nextL, nextL, List.take_succ_eq_append_getElem h, List.flatMap_append, e]
  simp [ext1]
theorem nextL_all (T : Nat) (rows : List (List Int)) : nextL T rows rows.length = rows.flatMap (ext1 T) := by rw [nextL, List.take_length]
theorem nextL_len (T : Nat) (rows : List (List Int)) : ∀ i, i ≤ rows.length → (nextL T rows i).length = i * T
  | 0, _ => by simp [nextL]
  | i + 1, h => by
    rw [← partL_all T rows i (by omega), partL, List.length_append, nextL_len T rows i (by omega), List.length_map, List.length_range, Nat.succ_mul]
theorem partL_len (T : Nat) (rows : List (List Int)) (i x : Nat) (h : i ≤ rows.length) : (partL T rows i x).length = i * T + x := by
  rw [partL, List.length_append, nextL_len T rows i h, List.length_map, List.length_range]
theorem allK_len (T : Nat) : ∀ k, (allK T k).length = T ^ k
  | 0 => rfl
  | k + 1 => by rw [allK, ← nextL_all, nextL_len _ _ _ (Nat.le_refl _), allK_len T k, Nat.pow_succ]
theorem allK_row (T : Nat) : ∀ k, ∀ r ∈ allK T k, r.length = k ∧ ∀ z ∈ r, 0 ≤ z ∧ z < T
  | 0, r, h => by
    simp [allK] at h
    subst h
    simp
  | k + 1, r, h => by
    rw [allK, List.mem_flatMap] at h
    obtain ⟨s, hs, hr⟩ := h
    obtain ⟨x, hx, rfl⟩ := List.mem_map.1 hr
    have hx := List.mem_range.1 hx
    obtain ⟨h1, h2⟩ := allK_row T k s hs
    refine ⟨by simp [h1], fun z hz => ?_⟩
    rcases List.mem_append.1 hz with h3 | h3
    · exact h2 z h3
    · simp at h3
      subst h3
      omega
theorem gl_mem {rows : List (List Int)} {i : Nat} (h : i < rows.length) : gl rows i ∈ rows := by
  rw [gl, List.getD_eq_getElem?_getD, List.getElem?_eq_getElem h]; exact List.getElem_mem h
theorem allK_good {T : Nat} (h1 : 1 ≤ T) (h4 : T ≤ 4) {r : List Int} (hr : r ∈ allK T T) : Good r ∧ r.length = T := by
  obtain ⟨e, h⟩ := allK_row T T r hr
  refine ⟨⟨by omega, fun k hk => ?_⟩, e⟩
  have := h _ (nth_mem hk)
  omega
theorem allK_bound {T k : Nat} (hT : T ≤ 4) (hk : k ≤ 4) : (allK T k).length ≤ 256 := by
  rw [allK_len]
  exact Nat.le_trans (Nat.pow_le_pow_left hT k) (Nat.pow_le_pow_right (n := 4) (by omega) hk)

/-- append of a slice that is owned onto an empty one -/
theorem wpList_appO {ops : Array Oper} {rest : List Oper} {o : Oper} {a : Act} {Q : Exit → Act → World → Prop} (w : World) (hgd : o.guard = none) (s x : Operand)
    (ho : o.op = .call { callee := .builtin .append, args := #[s, x], argTypes := #[22, 22] })
    (base B' : Nat) (v : Value) (hs : a.eval s = v) (hown : Own base w v []) (D : Option Addr) (ys : List Int) (c : Nat) (hx : a.eval x = .slice D ys.length c)
    (hr : Own B' w (.slice D ys.length c) ys) (hlen : ys.length ≤ 1000000000) (hbase : base ≤ w.heap.size)
    (hK : ∀ A c w', Own base w' (.slice A ys.length c) ys → Below base w w' → wpList Try.prog ops Q rest (a.put o.dst (.slice A ys.length c)) w') : wpList Try.prog ops Q (o :: rest) a w := by
  have hr2 := hr.2
  rcases hr2 with ⟨e, h0⟩ | ⟨g, cap, cur, e, _⟩
  · have hy : ys = [] := List.eq_nil_of_length_eq_zero h0
    subst hy
    obtain ⟨i0, hi, hz0, hz1, hz2⟩ := info_parts info_int
    refine wpList_append_own_none hgd s x 22 ho base 3 i0 1 Try.underlying22 hi v 0 [] hs hown (by rw [hx, e]) ?_
    obtain ⟨A, c', e2, _⟩ := hown.form
    rw [e2] at hown ⊢
    exact hK A c' w hown (Below.refl _ _)
  · injection e with e1 e2 e3
    subst e1
    exact wpList_appE w hgd s x ho base v hs hown ⟨g, 0, none⟩ ys c hx (fun k hk => by rw [add_g]; exact hr.cell hk) hlen hbase hK


end Go.Proofs.Ytkbfcaaihellfaa

/- Contracts: all maps of few things, the reference's way. -/
namespace Go.Proofs.Ytkbfcaaihellfaa
open Go.RowKit
set_option linter.unusedVariables false

set_option maxHeartbeats 4000000 in
theorem l6All_c (T : Nat) (w : World) (h1 : 1 ≤ T) (h4 : T ≤ 4) : Calls Try.prog 37 #[.int .i64 T] w (RetRR w (allK T T)) := by
  go_enter Try.func37, Try.ntmps37
  go_wp2_with fail
  have b0 : Below w.heap.size w ((w.alloc (.cells #[] 3)).alloc (.cells #[.slice (some ⟨w.heap.size, 0, none⟩) 0 0] 22)) := ((Below.refl _ _).alloc (Nat.le_refl _) _).alloc (by simp) _
  have o0 : OwnRR w.heap.size ((w.alloc (.cells #[] 3)).alloc (.cells #[.slice (some ⟨w.heap.size, 0, none⟩) 0 0] 22)) (.slice (some ⟨w.heap.size + 1, 0, none⟩) 1 1) (allK T 0) := by
    refine ⟨[.slice (some ⟨w.heap.size, 0, none⟩) 0 0], ?_, rfl, fun k hk => ?_⟩
    · have := World.ownsRow_lit (base := w.heap.size) (e := 22) (size := 1) (w.alloc (.cells #[] 3)) #[.slice (some ⟨w.heap.size, 0, none⟩) 0 0] 1 (by simp) (by decide) (by simp)
      unfold RowR
      simpa using this
    · obtain rfl : k = 0 := by simp [allK] at hk; omega
      exact ⟨_, 0, rfl, (own_empty w).alloc _⟩
  go_loopw [3, 4] (fun v i wr => ∃ k : Nat, k ≤ T ∧ i = .int .i64 k ∧ OwnRR w.heap.size wr v (allK T k) ∧ Below w.heap.size w wr) (fun _ i _ => T - (intOf i).toNat)
  case atStart => exact ⟨0, Nat.zero_le _, rfl, o0, b0⟩
  case round =>
    clear o0 b0
    obtain ⟨k, hk, rfl, ho, hb⟩ := hrel
    by_cases hlt : k < T
    · have HA := hid (show allK T (k + 1) = (allK T k).flatMap (ext1 T) from rfl)
      have HB := hid (allK_bound h4 (show k ≤ 4 by omega))
      have HR := hid (fun i (hi : i < (allK T k).length) => (show (gl (allK T k) i).length ≤ 4 by rw [(allK_row T k _ (gl_mem hi)).1]; omega))
      have hsz := hb.size
      obtain ⟨D0, d0, rfl⟩ := ho.form
      have hle : (allK T k).length ≤ 256 := HB.out
      generalize allK T k = rows at *
      have o1 := OwnRR.new_ wr
      have b1 : Below wr.heap.size wr (wr.alloc (.cells #[] 22)) := (Below.refl _ _).alloc (Nat.le_refl _) _
      have HO := hid ho
      have HBB := hid hb
      clear ho hb
      go_wp2_with fail
      generalize hw0 : wr = w0 at *
      clear hw0
      go_loopw [5, 6] (fun v i wr => ∃ i' : Nat, i' ≤ rows.length ∧ i = .int .i64 i' ∧ OwnRR w0.heap.size wr v (nextL T rows i') ∧ Below w0.heap.size w0 wr) (fun _ i _ => rows.length - (intOf i).toNat)
      case atStart => exact ⟨0, Nat.zero_le _, rfl, o1, b1⟩
      case round =>
        clear o1 b1
        obtain ⟨i, hi, rfl, hn, hb1⟩ := hrel
        by_cases hli : i < rows.length
        · have HN := hid (partL_all T rows i hli)
          have HL := hid (fun x => partL_len T rows i x hi)
          have hm := Nat.mul_le_mul (show i ≤ 256 by omega) h4
          rw [← partL_zero] at hn
          go_wp2_with fail
          go_loopw [5, 7] (fun v x wr => ∃ x' : Nat, x' ≤ T ∧ x = .int .i64 x' ∧ OwnRR w0.heap.size wr v (partL T rows i x') ∧ Below w0.heap.size w0 wr) (fun _ x _ => T - (intOf x).toNat)
          case atStart => exact ⟨0, Nat.zero_le _, rfl, hn, hb1⟩
          case round =>
            clear hn hb1
            obtain ⟨x, hx, rfl, hn, hb1⟩ := hrel
            by_cases hlx : x < T
            · obtain ⟨g, D, d, e9, -, hc, hod⟩ := ((HO.out.below hb1).alloc (.cells #[] 3)).at_ hli
              cases e9
              have HP := hid (partL_succ T rows i x)
              have hpl : (partL T rows i x).length ≤ 10000 := by rw [HL.out x]; omega
              have hyl := HR.out i hli
              generalize gl rows i = ys at *
              generalize partL T rows i x = P at *
              have oe := own_empty wr
              have hsz1 := hb1.size
              go_wp2_with (first
                | (at_builtin; refine wpList_appO _ rfl _ _ rfl wr.heap.size _ _ rfl oe D ys d rfl hod (by omega) (by simp) ?_; clear oe; intro A1 c1 w1 oi bi; have bi' : Below wr.heap.size wr w1 := ((Below.refl _ wr).alloc (Nat.le_refl _) _).trans bi; have hszi := bi'.size; clear bi hod hc)
                | (at_builtin; refine wpList_app1 _ rfl _ _ rfl wr.heap.size _ ys rfl (oi.alloc _) w1.heap.size (x : Int) rfl (cell_one1 _ _ _) (by omega) (by simp <;> omega) ?_; clear oi; intro A2 c2 w2 o2 b2; have b2' : Below wr.heap.size wr w2 := bi'.trans (((Below.refl _ w1).alloc hszi _).trans b2); have hsz2 := b2'.size; have hn2 := hn.below b2'; have o2' := o2.mono hsz1; rw [show ys.length + 1 = (ys ++ [(x : Int)]).length by simp] at o2' ⊢; clear b2 bi' hszi hn o2; generalize ys ++ [(x : Int)] = zs at *)
                | (at_builtin; refine wpList_appR _ rfl _ _ rfl w0.heap.size _ P rfl (hn2.alloc _) w2.heap.size A2 c2 zs (o2'.alloc _) rfl (cell_oneS _ _ _) (by omega) (by simp <;> omega) ?_; intro A4 c4 w4 o4 b4))
              have hb2 := hb1.trans (b2'.mono hsz1)
              have b4' : Below w0.heap.size w0 w4 := (hb2.alloc hb2.size _).trans b4
              clear b4 hb2
              go_wp2_with fail
              go_roundw
              case rel => exact ⟨x + 1, by omega, by go_num, by rw [HP.out]; exact o4, b4'⟩
              case measure => simp [intOf]; omega
            · obtain rfl : x = T := by omega
              rw [HN.out] at hn
              obtain ⟨A4, c4, rfl⟩ := hn.form
              go_wp2_with fail
              go_roundw
              case rel => exact ⟨i + 1, by omega, by go_num, hn, hb1⟩
              case measure => simp [intOf]; omega
        · obtain rfl : i = rows.length := by omega
          rw [nextL_all, ← HA.out] at hn
          have hn := hn.mono hsz
          have hb2 := HBB.out.trans (hb1.mono hsz)
          obtain ⟨A4, c4, rfl⟩ := hn.form
          clear hb1
          go_wp2_with fail
          go_roundw
          case rel => exact ⟨k + 1, by omega, by go_num, hn, hb2⟩
          case measure => simp [intOf]; omega
    · obtain rfl : k = T := by omega
      obtain ⟨A4, c4, rfl⟩ := ho.form
      go_wp2_with fail
      go_ret
      exact retRR_own ho hb

end Go.Proofs.Ytkbfcaaihellfaa

/- Contracts: the reference's RootsOf and AllWith. -/
namespace Go.Proofs.Ytkbfcaaihellfaa
open Go.RowKit
set_option linter.unusedVariables false

/-- append of one slice; another row of rows stands -/
theorem wpList_appRA {ops : Array Oper} {rest : List Oper} {o : Oper} {a : Act} {Q : Exit → Act → World → Prop} (w : World) (hgd : o.guard = none) (s x : Operand)
    (ho : o.op = .call { callee := .builtin .append, args := #[s, x], argTypes := #[23, 23] })
    (base : Nat) (v : Value) (xss : List (List Int)) (hs : a.eval s = v) (hown : OwnRR base w v xss) (g : Nat) (D : Option Addr) (d : Nat) (zs : List Int) (hz : Own base w (.slice D zs.length d) zs)
    (hx : a.eval x = .slice (some ⟨g, 0, none⟩) 1 1)
    (hc : w.cell? ⟨g, 0, none⟩ = some (.slice D zs.length d)) (hlen : xss.length ≤ 1000000000000) (hbase : base ≤ w.heap.size)
    {B2 : Nat} {u : Value} {yss : List (List Int)} (hu : OwnRR B2 w u yss) (hap : u.ownBlock = none ∨ u.ownBlock ≠ v.ownBlock)
    (hK : ∀ A c w', OwnRR base w' (.slice A (xss.length + 1) c) (xss ++ [zs]) → Below base w w' → OwnRR B2 w' u yss → (u.ownBlock = none ∨ u.ownBlock ≠ (Value.slice A (xss.length + 1) c).ownBlock) → wpList Try.prog ops Q rest (a.put o.dst (.slice A (xss.length + 1) c)) w') : wpList Try.prog ops Q (o :: rest) a w := by
  obtain ⟨i0, hi, hz0, hz1, hz2⟩ := info_parts' info_row
  obtain ⟨vs, hr, hl, he⟩ := hown
  refine wpList_append_own_at w hgd s x 23 ho base 22 i0 (.slice none 0 0) 1 24 Try.underlying23 hi hz0 hz1 hz2 rfl (by decide) v vs.length vs hs hr ⟨g, 0, none⟩ 1 1 [.slice D zs.length d] hx rfl ?_ ?_ ?_ ?_ hbase ?_
  · intro j u hj
    match j, hj with
    | 0, hj => simp at hj; subst hj; simpa [Addr.add] using hc
  · intro u hu; simp at hu; subst hu; rfl
  · unfold maxLen; omega
  · omega
  · intro v' w' hown' hgrow _ hfresh
    have hel : Els base w' (vs ++ [.slice D zs.length d]) (xss ++ [zs]) := by
      refine ⟨by simp [hl], fun k hk => ?_⟩
      rw [List.length_append] at hk
      by_cases hkl : k < xss.length
      · obtain ⟨A, c, e, ho⟩ := he k hkl
        have e9 : gl (xss ++ [zs]) k = gl xss k := by simp [gl, List.getD, List.getElem?_append_left hkl]
        rw [e9]
        exact ⟨A, c, by rw [List.getElem?_append_left (by omega)]; exact e, ho.kept hgrow (own_apart_row ho hr)⟩
      · obtain rfl : k = xss.length := by simp at hk; omega
        have e9 : gl (xss ++ [zs]) xss.length = zs := by simp [gl, List.getD]
        rw [e9]
        exact ⟨D, d, by rw [← hl]; simp, hz.kept hgrow (own_apart_row hz hr)⟩
    have hrow : RowR base w' v' (vs ++ [.slice D zs.length d]) := by unfold RowR; simpa using hown'
    have hall : OwnRR base w' v' (xss ++ [zs]) := ⟨_, hrow, hel⟩
    have hu' : OwnRR B2 w' u yss := by
      obtain ⟨us, u1, u2⟩ := hu
      exact ⟨us, World.ownsRow.kept u1 hgrow hap, u2.kept hgrow fun _ _ h => own_apart_row h hr⟩
    have hap' : u.ownBlock = none ∨ u.ownBlock ≠ v'.ownBlock := by
      rcases hap with h | h
      · exact .inl h
      · cases hb : u.ownBlock with
        | none => exact .inl rfl
        | some r =>
          refine .inr fun e => ?_
          rcases hfresh with h2 | h2
          · exact h (by rw [hb, ← h2, e])
          · obtain ⟨us, u1, _⟩ := hu
            have := (World.ownsRow.lt u1 r hb).2
            rw [h2] at e
            cases e
            omega
    obtain ⟨A, c, e⟩ := hall.form
    rw [e] at hall hap' ⊢
    rw [List.length_append] at hall hap' ⊢
    exact hK A c w' hall ((Below.refl base w).grown hgrow hbase (fun k hk => (World.ownsRow.lt hr k hk).1)) hu' hap'

def rootsS (f : List Int) : List (List Int) := if mapOkB f = true ∧ f.length ≤ 4 then (allK f.length f.length).filter (fun g => decide (behindL g g = f)) else []
def withS (f : List Int) : List (List Int) := if mapOkB f = true ∧ f.length ≤ 4 then (allK f.length f.length).filter (fun g => withB f g) else []
theorem filt_t {p : List Int → Bool} {L : List (List Int)} {k : Nat} (hk : k < L.length) (h : p (gl L k) = true) : (L.take (k + 1)).filter p = (L.take k).filter p ++ [gl L k] := by
  rw [takeS hk, List.filter_append, List.filter_cons, if_pos h]; rfl
theorem filt_f {p : List Int → Bool} {L : List (List Int)} {k : Nat} (hk : k < L.length) (h : p (gl L k) = false) : (L.take (k + 1)).filter p = (L.take k).filter p := by
  rw [takeS hk, List.filter_append, List.filter_cons, if_neg (by simp [h])]; simp
theorem filt_len {p : List Int → Bool} {L : List (List Int)} {k : Nat} : ((L.take k).filter p).length ≤ L.length :=
  Nat.le_trans (List.length_filter_le _ _) (by rw [List.length_take]; omega)
theorem keep1 {wr w1 w2 : World} {p : Addr} {x : Value} (h1 : Below wr.heap.size wr w1) (h2 : w1.cell? p = some x) (hb : Below w1.heap.size w1 w2) : Below wr.heap.size wr w2 ∧ w2.cell? p = some x :=
  ⟨h1.trans (hb.mono h1.size), (hb.cell (cell_lt h2)).trans h2⟩

set_option maxHeartbeats 4000000 in
theorem sRootsOf_c (A : Option Addr) (c : Nat) (f : List Int) (w : World) (hR : RdA w A f) (hn : f.length ≤ 1048577) :
    Calls Try.prog 9 #[.slice A f.length c] w (RetRR w (rootsS f)) := by
  have c1 := fun W (hb : Below w.heap.size w W) => sMapOk_c A c f W (hR.below hb) hn
  have o0 := OwnRR.new_ w
  have b0 : Below w.heap.size w (w.alloc (.cells #[] 22)) := (Below.refl _ _).alloc (Nat.le_refl _) _
  by_cases hf : mapOkB f = true
  · rw [hf] at c1
    by_cases h4 : f.length ≤ 4
    · have HE := hid (show rootsS f = (allK f.length f.length).filter (fun g => decide (behindL g g = f)) by unfold rootsS; rw [if_pos ⟨hf, h4⟩])
      have h1 : 1 ≤ f.length := (mapOkB_elim hf).1.1
      have hd4 : decide ((4 : Int) < (f.length : Int)) = false := by simp; omega
      have CA := hid (fun W => l6All_c f.length W h1 h4)
      have HG := hid (fun g (hg : g ∈ allK f.length f.length) => allK_good h1 h4 hg)
      have hLl := allK_bound (T := f.length) (k := f.length) h4 h4
      have C1 := hid c1
      clear c1
      generalize allK f.length f.length = L at *
      go_enter Try.func9, Try.ntmps9
      go_wp2_with fail
      refine (C1.out _ b0).mono ?_; rintro e w' ⟨rfl, rfl⟩
      go_wp2_with fail
      refine (CA.out _).mono ?_; rintro e w2 ⟨D, d, rfl, hrr, hb2⟩
      have o2 := o0.below hb2
      have hap0 : (Value.slice D L.length d).ownBlock = none ∨ (Value.slice D L.length d).ownBlock ≠ (Value.slice (some ⟨w.heap.size, 0, none⟩) 0 0).ownBlock := by
        obtain ⟨us, u1, _⟩ := hrr
        cases hb : (Value.slice D L.length d).ownBlock with
        | none => exact .inl rfl
        | some r =>
          refine .inr fun e => ?_
          have h9 := (World.ownsRow.lt u1 r hb).1
          cases e
          simp at h9
          omega
      have b2 := b0.trans (hb2.mono (by simp))
      have hrr := hrr.mono (show w.heap.size ≤ (w.alloc (.cells #[] 22)).heap.size by simp)
      clear o0 b0 hb2
      go_wp2_with fail
      go_loopw [3, 5] (fun v i wr => ∃ k : Nat, k ≤ L.length ∧ i = .int .i64 k ∧ OwnRR w.heap.size wr v ((L.take k).filter (fun g => decide (behindL g g = f))) ∧ OwnRR w.heap.size wr (.slice D L.length d) L ∧ ((Value.slice D L.length d).ownBlock = none ∨ (Value.slice D L.length d).ownBlock ≠ v.ownBlock) ∧ Below w.heap.size w wr) (fun _ i _ => L.length - (intOf i).toNat)
      case atStart => exact ⟨0, Nat.zero_le _, rfl, o2.mono (Nat.le_refl _), hrr, hap0, b2⟩
      case round =>
        clear o2 hrr hap0 b2
        obtain ⟨k, hk, rfl, ho, hrr, hap, hb⟩ := hrel
        by_cases hlt : k < L.length
        · obtain ⟨g, E, d', e9, hg, hc, hoe⟩ := hrr.at_ hlt
          obtain ⟨ad, had⟩ : ∃ ad : Addr, ad = ⟨g, 0, none⟩ := ⟨_, rfl⟩
          rw [← add_g, ← had] at hc
          rw [← had] at e9
          clear had
          subst e9
          obtain ⟨hgg, hgl⟩ := HG.out _ (glmem hlt)
          have hbl : (behindL (gl L k) (gl L k)).length = f.length := by rw [(good_behind hgg hgg rfl).2, hgl]
          have HRf := hid (hR.below hb)
          have HO := hid hoe.rd
          have C2 := hid (fun W (h : Below wr.heap.size wr W) => sBehindOf_c E E d' d' (gl L k) (gl L k) W (HO.out.below h) (HO.out.below h) (by omega) (by omega))
          have C3 := hid (fun W B' c' (h : Below wr.heap.size wr W) (hB : RdA W B' (behindL (gl L k) (gl L k))) => l6Same_c B' A c' c (behindL (gl L k) (gl L k)) f W hB (HRf.out.below h) hbl (by omega))
          have HB := hid hb
          have HRR := hid hrr
          have HOE := hid hoe
          obtain ⟨A0, c0, rfl⟩ := ho.form
          have HV := hid ho
          have hpl : ((L.take k).filter (fun g => decide (behindL g g = f))).length ≤ L.length := filt_len
          clear ho hrr hb hoe hR hgl hbl hgg
          by_cases he : behindL (gl L k) (gl L k) = f
          · have HF := hid (filt_t (p := fun g => decide (behindL g g = f)) hlt (decide_eq_true he))
            rw [decide_eq_true he] at C3
            clear he
            generalize behindL (gl L k) (gl L k) = bb at *
            generalize (L.take k).filter (fun g => decide (behindL g g = f)) = PK at *
            generalize gl L k = ys at *
            go_wp2_with fail
            go_region_held3 (fun w' => Below wr.heap.size wr w' ∧ w'.cell? (ad.add k) = some (.slice E ys.length d'))
              (first | exact ⟨(Below.refl _ _).drew, hc⟩ | (go_split_ands; exact keep1 (by assumption) (by assumption) hbN))
              (first
                | (go_at_call 39; refine (C2.out _ (by first | assumption | exact (Below.refl _ _).drew | exact And.left (by assumption))).mono ?_; rintro e w1 ⟨B1, c1, rfl, ho1, hbN⟩; have hb1 := ho1.rd)
                | (go_at_call 38; refine (C3.out _ _ _ (by first | assumption | exact (Below.refl _ _).drew | exact And.left (by assumption)) (by assumption)).mono ?_; rintro e w2 ⟨rfl, hbN⟩))
            have hb3 : Below wr.heap.size wr w2 := And.left (by assumption)
            have hc3 := (hb3.cell (cell_lt hc)).trans hc
            have ho3 := HV.out.below hb3
            have hrr3 := HRR.out.below hb3
            have hoe3 := HOE.out.below hb3
            have hbw := HB.out.trans (hb3.mono HB.out.size)
            have hsz := hbw.size
            go_wp2_with (at_builtin; refine wpList_appRA _ rfl _ _ rfl w.heap.size _ PK rfl (ho3.alloc _) w2.heap.size E d' ys (hoe3.alloc _) rfl (cell_oneS _ _ _) (by omega) (by simp <;> omega) (hrr3.alloc _) hap ?_; intro A4 c4 w4 o4 b4 r4 hap4)
            have b4' : Below w.heap.size w w4 := (hbw.alloc hsz _).trans b4
            clear b4 hbw
            go_wp2_with fail
            go_roundw
            case rel => exact ⟨k + 1, by omega, by go_num, by rw [HF.out]; exact o4, r4, hap4, b4'⟩
            case measure => simp [intOf]; omega
          · have HF := hid (filt_f (p := fun g => decide (behindL g g = f)) hlt (decide_eq_false he))
            rw [decide_eq_false he] at C3
            clear he
            generalize behindL (gl L k) (gl L k) = bb at *
            generalize (L.take k).filter (fun g => decide (behindL g g = f)) = PK at *
            generalize gl L k = ys at *
            go_wp2_with fail
            go_region_held3 (fun w' => Below wr.heap.size wr w' ∧ w'.cell? (ad.add k) = some (.slice E ys.length d'))
              (first | exact ⟨(Below.refl _ _).drew, hc⟩ | (go_split_ands; exact keep1 (by assumption) (by assumption) hbN))
              (first
                | (go_at_call 39; refine (C2.out _ (by first | assumption | exact (Below.refl _ _).drew | exact And.left (by assumption))).mono ?_; rintro e w1 ⟨B1, c1, rfl, ho1, hbN⟩; have hb1 := ho1.rd)
                | (go_at_call 38; refine (C3.out _ _ _ (by first | assumption | exact (Below.refl _ _).drew | exact And.left (by assumption)) (by assumption)).mono ?_; rintro e w2 ⟨rfl, hbN⟩))
            have hb3 : Below wr.heap.size wr w2 := And.left (by assumption)
            have ho3 := HV.out.below hb3
            have hrr3 := HRR.out.below hb3
            have hbw := HB.out.trans (hb3.mono HB.out.size)
            go_wp2_with fail
            go_roundw
            case rel => exact ⟨k + 1, by omega, by go_num, by rw [HF.out]; exact ho3, hrr3, hap, hbw⟩
            case measure => simp [intOf]; omega
        · obtain rfl : k = L.length := by omega
          rw [List.take_length, ← HE.out] at ho
          go_wp2_with fail
          go_ret
          exact retRR_own ho hb
    · have HE := hid (show rootsS f = [] by unfold rootsS; rw [if_neg (by omega)])
      have hd4 : decide ((4 : Int) < (f.length : Int)) = true := by simp; omega
      go_enter Try.func9, Try.ntmps9
      go_wp2_with fail
      refine (c1 _ b0).mono ?_; rintro e w' ⟨rfl, rfl⟩
      go_wp2_with fail
      go_ret
      rw [HE.out]
      exact retRR_own o0 b0
  · have HE := hid (show rootsS f = [] by unfold rootsS; rw [if_neg (by simp [hf])])
    rw [show mapOkB f = false by simpa using hf] at c1
    go_enter Try.func9, Try.ntmps9
    go_wp2_with fail
    refine (c1 _ b0).mono ?_; rintro e w' ⟨rfl, rfl⟩
    go_wp2_with fail
    go_ret
    rw [HE.out]
    exact retRR_own o0 b0
set_option maxHeartbeats 4000000 in
theorem sAllWith_c (A : Option Addr) (c : Nat) (f : List Int) (w : World) (hR : RdA w A f) (hn : f.length ≤ 1048577) :
    Calls Try.prog 17 #[.slice A f.length c] w (RetRR w (withS f)) := by
  have c1 := fun W (hb : Below w.heap.size w W) => sMapOk_c A c f W (hR.below hb) hn
  have o0 := OwnRR.new_ w
  have b0 : Below w.heap.size w (w.alloc (.cells #[] 22)) := (Below.refl _ _).alloc (Nat.le_refl _) _
  by_cases hf : mapOkB f = true
  · rw [hf] at c1
    by_cases h4 : f.length ≤ 4
    · have HE := hid (show withS f = (allK f.length f.length).filter (fun g => withB f g) by unfold withS; rw [if_pos ⟨hf, h4⟩])
      have h1 : 1 ≤ f.length := (mapOkB_elim hf).1.1
      have hd4 : decide ((4 : Int) < (f.length : Int)) = false := by simp; omega
      have CA := hid (fun W => l6All_c f.length W h1 h4)
      have HG := hid (fun g (hg : g ∈ allK f.length f.length) => allK_good h1 h4 hg)
      have hLl := allK_bound (T := f.length) (k := f.length) h4 h4
      have C1 := hid c1
      clear c1
      generalize allK f.length f.length = L at *
      go_enter Try.func17, Try.ntmps17
      go_wp2_with fail
      refine (C1.out _ b0).mono ?_; rintro e w' ⟨rfl, rfl⟩
      go_wp2_with fail
      refine (CA.out _).mono ?_; rintro e w2 ⟨D, d, rfl, hrr, hb2⟩
      have o2 := o0.below hb2
      have hap0 : (Value.slice D L.length d).ownBlock = none ∨ (Value.slice D L.length d).ownBlock ≠ (Value.slice (some ⟨w.heap.size, 0, none⟩) 0 0).ownBlock := by
        obtain ⟨us, u1, _⟩ := hrr
        cases hb : (Value.slice D L.length d).ownBlock with
        | none => exact .inl rfl
        | some r =>
          refine .inr fun e => ?_
          have h9 := (World.ownsRow.lt u1 r hb).1
          cases e
          simp at h9
          omega
      have b2 := b0.trans (hb2.mono (by simp))
      have hrr := hrr.mono (show w.heap.size ≤ (w.alloc (.cells #[] 22)).heap.size by simp)
      clear o0 b0 hb2
      go_wp2_with fail
      go_loopw [3, 5] (fun v i wr => ∃ k : Nat, k ≤ L.length ∧ i = .int .i64 k ∧ OwnRR w.heap.size wr v ((L.take k).filter (fun g => withB f g)) ∧ OwnRR w.heap.size wr (.slice D L.length d) L ∧ ((Value.slice D L.length d).ownBlock = none ∨ (Value.slice D L.length d).ownBlock ≠ v.ownBlock) ∧ Below w.heap.size w wr) (fun _ i _ => L.length - (intOf i).toNat)
      case atStart => exact ⟨0, Nat.zero_le _, rfl, o2.mono (Nat.le_refl _), hrr, hap0, b2⟩
      case round =>
        clear o2 hrr hap0 b2
        obtain ⟨k, hk, rfl, ho, hrr, hap, hb⟩ := hrel
        by_cases hlt : k < L.length
        · obtain ⟨g, E, d', e9, hg, hc, hoe⟩ := hrr.at_ hlt
          obtain ⟨ad, had⟩ : ∃ ad : Addr, ad = ⟨g, 0, none⟩ := ⟨_, rfl⟩
          rw [← add_g, ← had] at hc
          rw [← had] at e9
          clear had
          subst e9
          obtain ⟨hgg, hgl⟩ := HG.out _ (glmem hlt)
          have HRf := hid (hR.below hb)
          have HO := hid hoe.rd
          have C2 := hid (sWithOk_c A E c d' f (gl L k) wr HRf.out HO.out (by omega) (by omega))
          have HB := hid hb
          have HRR := hid hrr
          have HOE := hid hoe
          obtain ⟨A0, c0, rfl⟩ := ho.form
          have HV := hid ho
          have hpl : ((L.take k).filter (fun g => withB f g)).length ≤ L.length := filt_len
          clear ho hrr hb hoe hR hgl hgg HRf HO
          cases he : withB f (gl L k) with
          | true =>
            have HF := hid (filt_t (p := fun g => withB f g) hlt he)
            rw [he] at C2
            clear he
            generalize (L.take k).filter (fun g => withB f g) = PK at *
            generalize gl L k = ys at *
            go_wp2_with fail
            refine C2.out.mono ?_; rintro e w2 ⟨rfl, hb3⟩
            have hc3 := (hb3.cell (cell_lt hc)).trans hc
            have ho3 := HV.out.below hb3
            have hrr3 := HRR.out.below hb3
            have hoe3 := HOE.out.below hb3
            have hbw := HB.out.trans (hb3.mono HB.out.size)
            have hsz := hbw.size
            go_wp2_with (at_builtin; refine wpList_appRA _ rfl _ _ rfl w.heap.size _ PK rfl (ho3.alloc _) w2.heap.size E d' ys (hoe3.alloc _) rfl (cell_oneS _ _ _) (by omega) (by simp <;> omega) (hrr3.alloc _) hap ?_; intro A4 c4 w4 o4 b4 r4 hap4)
            have b4' : Below w.heap.size w w4 := (hbw.alloc hsz _).trans b4
            clear b4 hbw
            go_wp2_with fail
            go_roundw
            case rel => exact ⟨k + 1, by omega, by go_num, by rw [HF.out]; exact o4, r4, hap4, b4'⟩
            case measure => simp [intOf]; omega
          | false =>
            have HF := hid (filt_f (p := fun g => withB f g) hlt he)
            rw [he] at C2
            clear he
            generalize (L.take k).filter (fun g => withB f g) = PK at *
            generalize gl L k = ys at *
            go_wp2_with fail
            refine C2.out.mono ?_; rintro e w2 ⟨rfl, hb3⟩
            have ho3 := HV.out.below hb3
            have hrr3 := HRR.out.below hb3
            have hbw := HB.out.trans (hb3.mono HB.out.size)
            go_wp2_with fail
            go_roundw
            case rel => exact ⟨k + 1, by omega, by go_num, by rw [HF.out]; exact ho3, hrr3, hap, hbw⟩
            case measure => simp [intOf]; omega
        · obtain rfl : k = L.length := by omega
          rw [List.take_length, ← HE.out] at ho
          go_wp2_with fail
          go_ret
          exact retRR_own ho hb
    · have HE := hid (show withS f = [] by unfold withS; rw [if_neg (by omega)])
      have hd4 : decide ((4 : Int) < (f.length : Int)) = true := by simp; omega
      go_enter Try.func17, Try.ntmps17
      go_wp2_with fail
      refine (c1 _ b0).mono ?_; rintro e w' ⟨rfl, rfl⟩
      go_wp2_with fail
      go_ret
      rw [HE.out]
      exact retRR_own o0 b0
  · have HE := hid (show withS f = [] by unfold withS; rw [if_neg (by simp [hf])])
    rw [show mapOkB f = false by simpa using hf] at c1
    go_enter Try.func17, Try.ntmps17
    go_wp2_with fail
    refine (c1 _ b0).mono ?_; rintro e w' ⟨rfl, rfl⟩
    go_wp2_with fail
    go_ret
    rw [HE.out]
    exact retRR_own o0 b0
end Go.Proofs.Ytkbfcaaihellfaa

/- Plain law: the reference's roots are those that mapsThat finds, and so with the maps that go with a map; no row twice. No program in sight. -/
namespace Go.Proofs.Ytkbfcaaihellfaa
set_option linter.unusedVariables false

theorem rowsFrom_flat (p : List Int → Bool) (Rj : Nat → List (List Int)) : ∀ k j, (rowsFrom p Rj j k).flatten = ((List.range' j k).flatMap Rj).filter p
  | 0, j => rfl
  | k + 1, j => by
    rw [rowsFrom, List.flatten_cons, rowsFrom_flat p Rj k (j + 1), List.range'_succ, List.flatMap_cons, List.filter_append]
theorem rows_all : ∀ n, n < 5 → (List.range' 0 n).flatMap (rowsOf n) = if n = 0 then [] else allK n n := by decide +kernel
theorem rows_nodup : ∀ n, n < 5 → (allK n n).Nodup := by decide +kernel
theorem thatL_eq {p : List Int → Bool} {n : Nat} (h1 : 1 ≤ n) (h4 : n ≤ 4) : thatL p n = (allK n n).filter p := by
  unfold thatL
  rw [rowsFrom_flat, rows_all n (by omega), if_neg (by omega)]
theorem rootsS_eq (f : List Int) : rootsS f = rootsV f := by
  unfold rootsS rootsV
  split
  · rename_i h
    exact (thatL_eq (mapOkB_elim h.1).1.1 h.2).symm
  · rfl
theorem withS_eq (f : List Int) : withS f = withV f := by
  unfold withS withV
  split
  · rename_i h
    exact (thatL_eq (mapOkB_elim h.1).1.1 h.2).symm
  · rfl
theorem rootsV_nodup (f : List Int) : (rootsV f).Nodup := by
  rw [← rootsS_eq]
  unfold rootsS
  split
  · rename_i h
    exact (rows_nodup _ (by omega)).filter _
  · exact List.nodup_nil
theorem withV_nodup (f : List Int) : (withV f).Nodup := by
  rw [← withS_eq]
  unfold withS
  split
  · rename_i h
    exact (rows_nodup _ (by omega)).filter _
  · exact List.nodup_nil
end Go.Proofs.Ytkbfcaaihellfaa

/- What is known of memory by predicates on the emptied world that later steps keep; contracts of more plain functions, a goroutine alone on whatever schedule. -/
namespace Go.Proofs.Ytkbfcaaihellfaa
open Go.Conc Go.ConcN Go.RowKit
set_option linter.unusedVariables false
set_option linter.unusedSectionVars false

section
variable {Sb : Nat → Prop} {Post : Value → World → Prop} {v v' w w' W0 : World} {A B : Option Addr} {c d : Nat} {f g xs : List Int} {F F' : World → Prop}
def SV (Sb : Nat → Prop) (W0 : World) (F : World → Prop) (w : World) : Prop := ∃ v, Inv Sb W0 v w ∧ F v
/-- what later steps keep -/
def Stb (Sb : Nat → Prop) (F : World → Prop) : Prop := ∀ v v' w, PR Sb v w → F v → Ltr Sb v v' → F v'
theorem SV.at (h : SV Sb W0 F w) (d : Nat) : SV Sb W0 F (w.at d) := let ⟨v, h1, h2⟩ := h; ⟨v, h1.at d, h2⟩
theorem SV.rely {w₁ : World} (h : SV Sb W0 F w) (r : RA1 () w w₁) : SV Sb W0 F w₁ := by obtain ⟨d, rfl⟩ := r; exact h.at d
theorem SV.drew (h : SV Sb W0 F w) : SV Sb W0 F { w with drawn := w.drawn + 1 } := h.at (w.drawn + 1)
theorem SV.mono (h : SV Sb W0 F w) (hf : ∀ v, F v → F' v) : SV Sb W0 F' w := let ⟨v, h1, h2⟩ := h; ⟨v, h1, hf v h2⟩
theorem SV.cell (h : SV Sb W0 F w) {p : Addr} {x : Value} (hf : ∀ v, F v → v.cell? p = some x) : w.cell? p = some x ∧ p.block < w.heap.size ∧ ¬ Sb p.block := by
  obtain ⟨v, h1, h2⟩ := h
  obtain ⟨a1, a2⟩ := h1.pr.cell_some (hf v h2)
  exact ⟨a2, cell_lt a2, a1⟩
theorem Stb.and (h : Stb Sb F) (h' : Stb Sb F') : Stb Sb fun v => F v ∧ F' v := fun v v' w hp hf l => ⟨h v v' w hp hf.1 l, h' v v' w hp hf.2 l⟩
theorem stb_rd : Stb Sb fun v => RdA v A xs := fun v v' w hp hf l => rdA_ltr hp hf l
theorem stb_rr {L : List (List Int)} : Stb Sb fun v => RdRR v A L := fun v v' w hp hf l => hf.ltr hp l
theorem stb_cell {p : Addr} {x : Value} : Stb Sb fun v => v.cell? p = some x := fun v v' w hp hf l => by
  have h1 := (hp.cell_some hf).1
  have h2 := cell_lt hf
  rw [← hf]
  simp only [World.cell?, l.block _ h2 h1]
theorem stb_true : Stb Sb fun _ => True := fun _ _ _ _ _ _ => trivial
theorem sv_call {T : Unit → Goroutine → World → Prop} {fn : FuncId} {args : Array Value} {Res : World → Value → World → Prop} {ι : Type} {val : ι → Value} {G : ι → World → Prop} (hF : Stb Sb F) (hw : SV Sb W0 F w)
    (h : ∀ v, PR Sb v w → F v → CallsT Try.prog T fn args () w fun x _ w' => w'.tape = w.tape ∧ ∃ v', PR Sb v' w' ∧ Res v x v') (hr : ∀ v x v', Res v x v' → (∃ i, x = val i ∧ G i v') ∧ Ltr Sb v v') :
    CallsT Try.prog T fn args () w fun x y' w' => y' = () ∧ ∃ i, x = val i ∧ SV Sb W0 (fun v' => F v' ∧ G i v') w' := by
  obtain ⟨v, hi, hf⟩ := hw
  refine (h v hi.pr hf).mono fun x y' w' ⟨ht, v', hp, hres⟩ => ?_
  obtain ⟨⟨i, e, hg⟩, l⟩ := hr v x v' hres
  exact ⟨rfl, i, e, v', hi.ltr l hp ht, hF v v' w hi.pr hf l, hg⟩

/-! ### contracts -/
theorem behindOf_la (hp : PR Sb v w) (hA : RdA v A f) (hB : RdA v B g) (hn : f.length ≤ 1048577) (hm : g.length ≤ 1048577) : CLA Sb Post 25 #[.slice A f.length c, .slice B g.length d] w fun x v' => (∃ i : Option Addr × Nat, x = .slice i.1 (behindL f g).length i.2 ∧ RdA v' i.1 (behindL f g)) ∧ Ltr Sb v v' :=
  callsLA (by rfl) hp (fun τ => iBehindOf_c A B c d f g (v.tp τ 0) hA hB hn hm) fun τ e v' h => let ⟨B, d, e1, ho, hb, _⟩ := h; ⟨_, e1, ⟨(B, d), rfl, ho.rd⟩, ltr_of_below hb⟩
theorem sameOf_la {n : Int} (hp : PR Sb v w) : CLA Sb Post 23 #[.int .i64 n] w fun x v' => (∃ i : Option Addr × Nat, x = .slice i.1 (sameL n).length i.2 ∧ RdA v' i.1 (sameL n)) ∧ Ltr Sb v v' :=
  callsLA (by rfl) hp (fun τ => iSameOf_c n (v.tp τ 0)) fun τ e v' h => let ⟨B, d, e1, ho, hb, _⟩ := h; ⟨_, e1, ⟨(B, d), rfl, ho.rd⟩, ltr_of_below hb⟩
theorem sameInts_la (hp : PR Sb v w) (hA : RdA v A f) (hB : RdA v B g) (hn : f.length ≤ 1048577) (hm : g.length ≤ 1048577) : CLA Sb Post 22 #[.slice A f.length c, .slice B g.length d] w fun x v' => x = .bool (decide (f = g)) ∧ Ltr Sb v v' :=
  callsLA (by rfl) hp (fun τ => sameInts_c A B c d f g (v.tp τ 0) hA hB hn hm) fun τ e v' h => ⟨_, h.1, rfl, ltr_of_below h.2⟩
theorem withOk_la (hp : PR Sb v w) (hA : RdA v A f) (hB : RdA v B g) (hn : f.length ≤ 1048577) (hm : g.length ≤ 1048577) : CLA Sb Post 24 #[.slice A f.length c, .slice B g.length d] w fun x v' => x = .bool (withB f g) ∧ Ltr Sb v v' :=
  callsLA (by rfl) hp (fun τ => iWithOk_c A B c d f g (v.tp τ 0) hA hB hn hm) fun τ e v' h => ⟨_, h.1, rfl, ltr_of_below h.2⟩
theorem sRootsOf_la (hp : PR Sb v w) (hA : RdA v A f) (hn : f.length ≤ 1048577) : CLA Sb Post 9 #[.slice A f.length c] w fun x v' => (∃ i : Option Addr × Nat, x = .slice i.1 (rootsV f).length i.2 ∧ RdRR v' i.1 (rootsV f)) ∧ Ltr Sb v v' :=
  by rw [← rootsS_eq f]; exact callsLA (by rfl) hp (fun τ => sRootsOf_c A c f (v.tp τ 0) hA hn) fun τ e v' h => let ⟨B, d, e1, ho, hb⟩ := h; ⟨_, e1, ⟨(B, d), rfl, ho.rd⟩, ltr_of_below hb⟩
theorem sAllWith_la (hp : PR Sb v w) (hA : RdA v A f) (hn : f.length ≤ 1048577) : CLA Sb Post 17 #[.slice A f.length c] w fun x v' => (∃ i : Option Addr × Nat, x = .slice i.1 (withV f).length i.2 ∧ RdRR v' i.1 (withV f)) ∧ Ltr Sb v v' :=
  by rw [← withS_eq f]; exact callsLA (by rfl) hp (fun τ => sAllWith_c A c f (v.tp τ 0) hA hn) fun τ e v' h => let ⟨B, d, e1, ho, hb⟩ := h; ⟨_, e1, ⟨(B, d), rfl, ho.rd⟩, ltr_of_below hb⟩
theorem sameRows_la {L M : List (List Int)} (hp : PR Sb v w) (hA : RdRR v A L) (hB : RdRR v B M) (hn : L.length ≤ 1048577) (hm : M.length ≤ 1048577) (hr : ∀ k, k < L.length → (gl L k).length ≤ 1048577) (hs : ∀ k, k < M.length → (gl M k).length ≤ 1048577) :
    CLA Sb Post 20 #[.slice A L.length c, .slice B M.length d] w fun x v' => x = .bool (decide (L = M)) ∧ Ltr Sb v v' :=
  callsLA (by rfl) hp (fun τ => sameRows_c A B c d L M (v.tp τ 0) hA hB hn hm hr hs) fun τ e v' h => ⟨_, h.1, rfl, ltr_of_below h.2⟩
end
end Go.Proofs.Ytkbfcaaihellfaa

/- The draws of names, of two maps, of turns, of a map and a thing. -/
namespace Go.Proofs.Ytkbfcaaihellfaa
open Go.RowKit
set_option linter.unusedVariables false

theorem DrawnR.le {w w' : World} {r m d d' n : Nat} {e : Ending} (h : DrawnR w r m d n e w') (hd : d ≤ d') : DrawnR w r m d' n e w' := by
  obtain ⟨xs, A, c, h1, h2, h3, h4, h5⟩ := h
  exact ⟨xs, A, c, h1, h2, h3, h4.more (by omega), h5⟩

set_option maxHeartbeats 2000000 in
theorem l20Names_c (r m n : Nat) (w : World) (hr : Rdr w r m) (hm : m ≤ 1000) (hn : n ≤ 8) :
    Calls Try.prog 67 #[.pointer (some ⟨r, 0, none⟩), .int .i64 n] w (DrawnR w r m 8 8) := by
  have hrl := hr.lt
  have o0 := own_empty w
  have b0 : Below w.heap.size w (w.alloc (.cells #[] 3)) := (Below.refl _ _).alloc (Nat.le_refl _) _
  have hr0 := hr.below b0 hrl
  have g0 := grown_of_below b0 (some r)
  clear hr b0
  go_enter Try.func67, Try.ntmps67
  go_wp2_with fail
  go_loopw [5, 6] (fun v i wr => ∃ (k : Nat) (xs : List Int), k ≤ n ∧ Hid (xs.length = k) ∧ i = .int .i64 k ∧ Own w.heap.size wr v xs ∧ Rdr wr r (m + k) ∧ w.grownBy wr (some r)) (fun _ i _ => n - (intOf i).toNat)
  case atStart => exact ⟨0, [], Nat.zero_le _, rfl, rfl, o0, hr0, g0⟩
  case round =>
    clear o0 hr0 g0
    obtain ⟨k, xs, hk, HXL, rfl, ho, hr1, g1⟩ := hrel
    by_cases hlt : k < n
    · go_wp2_with fail
      refine (pick_c r (m + k) ((k : Int) + 1) wr hr1 (by omega) (by omega) (by omega)).mono ?_
      rintro e w2 ⟨z, rfl, hz0, hz1, hr2, hg2, hz2⟩
      have g2 := grown_pick g1 hg2
      have o2 := ho.pick hrl hg2
      have hsz : w.heap.size ≤ w2.heap.size := g2.size
      obtain ⟨Z, rfl⟩ := Int.eq_ofNat_of_zero_le hz0
      clear hz2 hg2 g1 ho hr1
      go_wp2_with (at_builtin; refine wpList_app1 _ rfl _ _ rfl w.heap.size _ xs rfl (o2.alloc _) w2.heap.size (k : Int) rfl (cell_one1 _ _ _) (by have := HXL.out; omega) (by simp; omega) ?_; intro A3 c3 w3 o3 b3)
      have b3' : Below w.heap.size w2 w3 := ((Below.refl _ w2).alloc hsz _).trans b3
      have hr3 := hr2.below b3' hrl
      have g3 := grown_step g2 b3' (Nat.le_refl _)
      clear b3 b3' hr2 g2 o2
      obtain ⟨gO, c', e9, hgO, -⟩ := o3.pos (by simp)
      rw [List.length_append, show [((k : Nat) : Int)].length = 1 from rfl] at e9
      cases e9
      have HY := hid (show (xs ++ [(k : Int)]).length = k + 1 by rw [List.length_append, HXL.out]; rfl)
      rw [HXL.out] at o3 ⊢
      generalize xs ++ [(k : Int)] = ys at *
      clear HXL
      go_wp2_with fail
      go_loopw [8] (fun i wr' => ∃ (j : Nat) (zs : List Int), Z ≤ j ∧ j ≤ k ∧ i = .int .i64 j ∧ Hid (zs.length = k + 1) ∧ Own w.heap.size wr' (.slice (some ⟨gO, 0, none⟩) (k + 1) c3) zs ∧ Rdr wr' r (m + k + 1) ∧ w.grownBy wr' (some r)) (fun i _ => (intOf i).toNat)
      case atStart => exact ⟨k, ys, by omega, Nat.le_refl _, rfl, HY, o3, hr3, g3⟩
      case round =>
        clear o3 hr3 g3
        obtain ⟨j, zs, hj1, hj2, rfl, HZ, ho, hr1, g1⟩ := hrel
        by_cases hjz : Z < j
        · have e1 : (j : Int) - 1 = ((j - 1 : Nat) : Int) := by omega
          have hc1 := ho.cell (k := j - 1) (by rw [HZ.out]; omega)
          have hc2 := ho.cell (k := j) (by rw [HZ.out]; omega)
          have hf2 := ho.frozen j
          have hs1 := ho.store j (nth zs (j - 1))
          have bs1 := (Below.refl w.heap.size wr).setCell (p := ⟨gO, j, none⟩) hgO (.int .i64 (nth zs (j - 1)))
          have HR := hid (And.intro hs1 (And.intro (hr1.below bs1 hrl) (grown_step g1 bs1 (Nat.le_refl _))))
          have HL := hid (show (zs.set j (nth zs (j - 1))).length = k + 1 by rw [List.length_set, HZ.out])
          clear ho hr1 g1 hs1 bs1
          generalize nth zs (j - 1) = X at *
          generalize hJ : j - 1 = J at *
          have KJ := hid hJ
          clear hJ
          have hJk : J < k + 1 := by have := KJ.out; omega
          go_wp2_with fail
          go_roundw
          case rel => exact ⟨J, _, by have := KJ.out; omega, by have := KJ.out; omega, rfl, HL, HR.out.1, HR.out.2.1, HR.out.2.2⟩
          case measure => simp [intOf]; have := KJ.out; omega
        · obtain rfl : j = Z := by omega
          have hc2 := ho.cell (k := j) (by rw [HZ.out]; omega)
          have hf2 := ho.frozen j
          have hs1 := ho.store j (k : Int)
          have bs1 := (Below.refl w.heap.size wr).setCell (p := ⟨gO, j, none⟩) hgO (.int .i64 (k : Int))
          have HR := hid (And.intro hs1 (And.intro (hr1.below bs1 hrl) (grown_step g1 bs1 (Nat.le_refl _))))
          have HL := hid (show (zs.set j (k : Int)).length = k + 1 by rw [List.length_set, HZ.out])
          clear ho hr1 g1 hs1 bs1
          go_wp2_with fail
          go_roundw
          case rel => exact ⟨k + 1, _, by omega, HL, by go_num, HR.out.1, HR.out.2.1, HR.out.2.2⟩
          case measure => simp [intOf]; omega
    · obtain rfl : k = n := by omega
      have hxl := HXL.out
      have H := hid (drawn_own (r := r) (m := m) (d := 8) (n := 8) (by omega) ho (hr1.more (by omega)) g1)
      obtain ⟨A, c, rfl, -⟩ := ho.form
      clear hxl ho hr1 g1
      go_wp2_with fail
      go_ret
      exact H.out

/-- two new slices; the reader goes on by at most d -/
def DrawnR2 (w : World) (r m d n : Nat) (e : Ending) (w' : World) : Prop :=
  ∃ (xs ys : List Int) (A B : Option Addr) (c c' : Nat), xs.length ≤ n ∧ ys.length ≤ n + 1 ∧ e = .returned (.tuple #[.slice A xs.length c, .slice B ys.length c']) ∧ Own w.heap.size w' (.slice A xs.length c) xs ∧ Own w.heap.size w' (.slice B ys.length c') ys ∧ Rdr w' r (m + d) ∧ w.grownBy w' (some r)
theorem drawn2_own {w w' : World} {r m d n : Nat} {xs ys : List Int} {A B : Option Addr} {k l c c' : Nat} (hx : xs.length ≤ n) (hy : ys.length ≤ n + 1) (ho : Own w.heap.size w' (.slice A k c) xs) (ho' : Own w.heap.size w' (.slice B l c') ys) (hr : Rdr w' r (m + d)) (hg : w.grownBy w' (some r)) : DrawnR2 w r m d n (.returned (.tuple #[.slice A k c, .slice B l c'])) w' := by
  obtain rfl := ho.len
  obtain rfl := ho'.len
  exact ⟨xs, ys, A, B, c, c', hx, hy, rfl, ho, ho', hr, hg⟩

theorem Own.keep {B B' : Nat} {w w' : World} {v : Value} {xs : List Int} (h : Own B w v xs) (hlt : ∀ g, v.ownBlock = some g → g < B') (hb : Below B' w w') : Own B w' v xs := by
  refine ⟨h.1, ?_⟩
  rcases h.2 with h2 | ⟨g, cap, cur, hv, hg, hh, r⟩
  · exact .inl h2
  · exact .inr ⟨g, cap, cur, hv, hg, (hb.block g (hlt g (by rw [hv]; rfl))).trans hh, r⟩


set_option maxHeartbeats 1000000 in
theorem l20Turn_c (r m : Nat) (w : World) (hr : Rdr w r m) (hm : m ≤ 900) :
    Calls Try.prog 51 #[.pointer (some ⟨r, 0, none⟩), .int .i64 7] w (DrawnR w r m 40 8) := by
  have hrl := hr.lt
  have hp := odd_c r m 8 w hr (by omega) (by omega) (by omega)
  clear hr
  go_enter Try.func51, Try.ntmps51
  go_wp2_with fail
  refine hp.mono ?_
  rintro e w1 ⟨b, rfl, hr1, g1, hz1⟩
  have hsz1 : w.heap.size ≤ w1.heap.size := g1.size
  clear hp hz1
  cases b
  · go_wp2_with fail
    refine (pick_c r (m + 1) 7 w1 hr1 (by omega) (by omega) (by omega)).mono ?_
    rintro e w2 ⟨z, rfl, hz0, hz1, hr2, hg2, hz2⟩
    have g2 := grown_pick g1 hg2
    have hsz2 : w.heap.size ≤ w2.heap.size := g2.size
    obtain ⟨Z, rfl⟩ := Int.eq_ofNat_of_zero_le hz0
    clear hz2 hg2 g1 hr1 hz0
    have k2' := l20Names_c r (m + 1 + 1) (1 + Z) w2 hr2 (by omega) (by omega)
    rw [show ((1 + Z : Nat) : Int) = 1 + (Z : Int) by omega] at k2'
    have k2 := hid k2'
    clear k2'
    go_wp2_with fail
    refine k2.out.mono ?_
    rintro e w3 ⟨xs, A, c, hx, rfl, of, hr3, hg3⟩
    have g3 := grown_pick g2 hg3
    have of := of.mono hsz2
    have hsz3 : w.heap.size ≤ w3.heap.size := g3.size
    clear k2 hr2 g2 hg3
    go_wp2_with fail
    refine (pick_c r (m + 1 + 1 + 8) 2 w3 hr3 (by omega) (by omega) (by omega)).mono ?_
    rintro e w4 ⟨y, rfl, hy0, hy1, hr4, hg4, hz4⟩
    have g4 := grown_pick g3 hg4
    have of := of.pick hrl hg4
    have hsz4 : w.heap.size ≤ w4.heap.size := g4.size
    clear hz4 hg4 g3 hr3
    by_cases hy : y = 0
    · subst hy
      have k5 := hid (sBehindOf_c A A c c xs xs w4 of.rd of.rd (by omega) (by omega))
      have HL := hid (show (behindL xs xs).length ≤ 8 by unfold behindL; split <;> simp [mk_len]; omega)
      clear of
      go_wp2_with fail
      refine k5.out.mono ?_
      rintro e w5 ⟨A5, c5, rfl, o5, b5⟩
      have hr5 := hr4.below b5 (by omega)
      have g5 := grown_step g4 b5 hsz4
      go_wp2_with fail
      go_ret
      exact drawn_own HL.out (o5.mono hsz4) (hr5.more (by omega)) g5
    · have q1 : (y == 0) = false := by simpa using hy
      go_wp2_with fail
      go_ret
      exact drawn_own hx of (hr4.more (by omega)) g4
  · have k2 := hid (l20Map_c r (m + 1) 7 3 w1 hr1 (by omega) (by omega) (by omega) (by omega) (by omega))
    go_wp2_with fail
    refine k2.out.mono ?_
    rintro e w2 ⟨xs, A, c, hx, rfl, of, hr2, hg2⟩
    have g2 := grown_pick g1 hg2
    go_wp2_with fail
    go_ret
    exact drawn_own hx (of.mono hsz1) (hr2.more (by omega)) g2

/-- a slice and a small number -/
def DrawnI (w : World) (r m d n : Nat) (e : Ending) (w' : World) : Prop :=
  ∃ (xs : List Int) (A : Option Addr) (c : Nat) (z : Int), xs.length ≤ n ∧ -100 ≤ z ∧ z ≤ 100 ∧ e = .returned (.tuple #[.slice A xs.length c, .int .i64 z]) ∧ Own w.heap.size w' (.slice A xs.length c) xs ∧ Rdr w' r (m + d) ∧ w.grownBy w' (some r)
def DrawI (w : World) (n : Nat) (e : Ending) (w' : World) : Prop :=
  ∃ (xs : List Int) (A : Option Addr) (c : Nat) (z : Int), xs.length ≤ n ∧ -100 ≤ z ∧ z ≤ 100 ∧ e = .returned (.tuple #[.slice A xs.length c, .int .i64 z]) ∧ Own w.heap.size w' (.slice A xs.length c) xs ∧ Below w.heap.size w w'

theorem Own.rdr {B r m : Nat} {w w' : World} {v : Value} {xs : List Int} (h : Own B w v xs) (hr : Rdr w r m) (hg : w.grownBy w' (some r)) : Own B w' v xs := h.kept hg (by
  rcases h.2 with ⟨rfl, _⟩ | ⟨g, cap, cur, rfl, _, hh, _⟩
  · exact .inl rfl
  · right
    intro e
    obtain rfl : g = r := by simpa [Value.ownBlock] using e
    obtain ⟨_, _, _, _, hb, _⟩ := hr
    rw [hb] at hh
    simp at hh)
def DrawR2 (w : World) (n : Nat) (e : Ending) (w' : World) : Prop :=
  ∃ (xs ys : List Int) (A B : Option Addr) (c c' : Nat), xs.length ≤ n ∧ ys.length ≤ n + 1 ∧ e = .returned (.tuple #[.slice A xs.length c, .slice B ys.length c']) ∧ Own w.heap.size w' (.slice A xs.length c) xs ∧ Own w.heap.size w' (.slice B ys.length c') ys ∧ Below w.heap.size w w'

end Go.Proofs.Ytkbfcaaihellfaa

/- Draws of maps that most often can be turned round, for the laws over TurnRootOk and TurnsWith. -/
namespace Go.Proofs.Ytkbfcaaihellfaa
open Go.RowKit
set_option linter.unusedVariables false

theorem DrawTurnRootOk_c (a : Option Addr) (len cap : Nat) (zs : List Int) (w : World) (h : RowIn .u8 w a len cap zs) (hn : len ≤ 1048576) :
    Calls Try.prog 28 #[.slice a len cap] w (DrawR w 8) := by
  have ho := open_c a len cap zs w h hn
  clear h
  go_enter Try.func28, Try.ntmps28
  go_wp2_with fail
  refine ho.mono ?_
  rintro e w1 ⟨r, rfl, hr, hb, hr0, hr1⟩
  go_wp2_with fail
  refine (l20Turn_c r 0 w1 hr (by omega)).mono ?_
  rintro e w2 ⟨xs, A, c, hx, rfl, ho2, hr2, hg2⟩
  go_wp2_with fail
  go_ret
  exact ⟨xs, A, c, hx, rfl, ho2.mono hb.size, below_pick hb hr0 hb.size hg2⟩
theorem DrawTurnsWith_c (a : Option Addr) (len cap : Nat) (zs : List Int) (w : World) (h : RowIn .u8 w a len cap zs) (hn : len ≤ 1048576) :
    Calls Try.prog 32 #[.slice a len cap] w (DrawR w 8) := by
  have ho := open_c a len cap zs w h hn
  clear h
  go_enter Try.func32, Try.ntmps32
  go_wp2_with fail
  refine ho.mono ?_
  rintro e w1 ⟨r, rfl, hr, hb, hr0, hr1⟩
  go_wp2_with fail
  refine (l20Turn_c r 0 w1 hr (by omega)).mono ?_
  rintro e w2 ⟨xs, A, c, hx, rfl, ho2, hr2, hg2⟩
  go_wp2_with fail
  go_ret
  exact ⟨xs, A, c, hx, rfl, ho2.mono hb.size, below_pick hb hr0 hb.size hg2⟩
end Go.Proofs.Ytkbfcaaihellfaa

/- Draws of maps for the laws over RootsOf and AllWith. -/
namespace Go.Proofs.Ytkbfcaaihellfaa
open Go.RowKit
set_option linter.unusedVariables false

theorem DrawAllWith_c (a : Option Addr) (len cap : Nat) (zs : List Int) (w : World) (h : RowIn .u8 w a len cap zs) (hn : len ≤ 1048576) :
    Calls Try.prog 19 #[.slice a len cap] w (DrawR w 8) := by
  have ho := open_c a len cap zs w h hn
  clear h
  go_enter Try.func19, Try.ntmps19
  go_wp2_with fail
  refine ho.mono ?_
  rintro e w1 ⟨r, rfl, hr, hb, hr0, hr1⟩
  go_wp2_with fail
  refine (l20Map_c r 0 4 9 w1 hr (by omega) (by omega) (by omega) (by omega) (by omega)).mono ?_
  rintro e w2 ⟨xs, A, c, hx, rfl, ho2, hr2, hg2⟩
  go_wp2_with fail
  go_ret
  exact ⟨xs, A, c, hx, rfl, ho2.mono hb.size, below_pick hb hr0 hb.size hg2⟩
set_option maxHeartbeats 1000000 in
theorem DrawRootsOf_c (a : Option Addr) (len cap : Nat) (zs : List Int) (w : World) (h : RowIn .u8 w a len cap zs) (hn : len ≤ 1048576) :
    Calls Try.prog 26 #[.slice a len cap] w (DrawR w 8) := by
  have ho := open_c a len cap zs w h hn
  clear h
  go_enter Try.func26, Try.ntmps26
  go_wp2_with fail
  refine ho.mono ?_
  rintro e w1 ⟨r, rfl, hr, hb, hr0, hr1⟩
  have HB := hid (And.intro hb hr0)
  have hrl := hr.lt
  have hz1 := hb.size
  clear hb ho
  go_wp2_with fail
  refine (l20Map_c r 0 4 9 w1 hr (by omega) (by omega) (by omega) (by omega) (by omega)).mono ?_
  rintro e w2 ⟨xs, A, c, hx, rfl, of, hr2, hg2⟩
  have hsz2 : w1.heap.size ≤ w2.heap.size := hg2.size
  clear hr
  have k3 := sMapOk_c A c xs w2 of.rd (by omega)
  cases hm : mapOkB xs with
  | false =>
    rw [hm] at k3
    have K3 := hid k3
    clear k3
    go_wp2_with fail
    refine K3.out.mono ?_; rintro e w' ⟨rfl, rfl⟩
    go_wp2_with fail
    go_ret
    exact ⟨xs, A, c, hx, rfl, of.mono hz1, below_pick HB.out.1 HB.out.2 HB.out.1.size hg2⟩
  | true =>
    rw [hm] at k3
    have K3 := hid k3
    clear k3
    go_wp2_with fail
    refine K3.out.mono ?_; rintro e w' ⟨rfl, rfl⟩
    clear K3
    go_wp2_with fail
    refine (pick_c r (0 + 30) 2 w2 hr2 (by omega) (by omega) (by omega)).mono ?_
    rintro e w4 ⟨y, rfl, hy0, hy1, hr4, hg4, hz4⟩
    have g4 := grown_pick hg2 hg4
    have of := of.pick hrl hg4
    have hsz4 : w1.heap.size ≤ w4.heap.size := g4.size
    clear hz4 hg4 hg2 hr2
    by_cases hy : y = 0
    · subst hy
      have k5 := hid (sBehindOf_c A A c c xs xs w4 of.rd of.rd (by omega) (by omega))
      have HL := hid (show (behindL xs xs).length ≤ 8 by unfold behindL; split <;> simp [mk_len]; omega)
      clear of
      go_wp2_with fail
      refine k5.out.mono ?_
      rintro e w5 ⟨A5, c5, rfl, o5, b5⟩
      have g5 := grown_step g4 b5 hsz4
      go_wp2_with fail
      go_ret
      exact ⟨_, A5, c5, HL.out, rfl, o5.mono (by omega), below_pick HB.out.1 HB.out.2 HB.out.1.size g5⟩
    · have q1 : (y == 0) = false := by simpa using hy
      go_wp2_with fail
      go_ret
      exact ⟨xs, A, c, hx, rfl, of.mono hz1, below_pick HB.out.1 HB.out.2 HB.out.1.size g4⟩
end Go.Proofs.Ytkbfcaaihellfaa
