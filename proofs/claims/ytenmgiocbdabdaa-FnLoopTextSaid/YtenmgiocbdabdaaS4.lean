/- Contracts of chapter 4: powers of the reference. -/
import Derived.Test.YtenmgiocbdabdaaS3
namespace Go.Proofs.Ytenmgiocbdabdaa
open Go.RowKit
set_option linter.unusedVariables false

theorem wpList_appE {ops : Array Oper} {rest : List Oper} {o : Oper} {a : Act} {Q : Exit → Act → World → Prop} (w : World) (hgd : o.guard = none) (s x : Operand)
    (ho : o.op = .call { callee := .builtin .append, args := #[s, x], argTypes := #[23, 23] })
    (base : Nat) (v : Value) (hs : a.eval s = v) (hown : Own base w v []) (ad : Addr) (ys : List Int) (c : Nat) (hx : a.eval x = .slice (some ad) ys.length c)
    (hr : ∀ k, k < ys.length → w.cell? (ad.add k) = some (.int .i64 (nth ys k))) (hlen : ys.length ≤ 1000000000) (hbase : base ≤ w.heap.size)
    (hK : ∀ A c w', Own base w' (.slice A ys.length c) ys → Below base w w' → wpList Try.prog ops Q rest (a.put o.dst (.slice A ys.length c)) w') : wpList Try.prog ops Q (o :: rest) a w := by
  refine wpList_appS w hgd s x ho base v [] hs hown ad ys c hx hr (by simp; omega) hbase ?_
  rw [show ([] : List Int).length + ys.length = ys.length by simp]
  exact hK

set_option maxHeartbeats 400000 in
theorem sSameOf_c (n : Nat) (w : World) (h1 : 1 ≤ n) (h7 : n ≤ 7) : Calls Try.prog 171 #[.int .i64 n] w (RetI w (mk n (fun k => k))) := by
  have o0 := own_empty w
  have b0 : Below w.heap.size w (w.alloc (.cells #[] 3)) := (Below.refl _ _).alloc (Nat.le_refl _) _
  go_enter Try.func171, Try.ntmps171
  go_wp2_with fail
  go_loopw [3, 4] (fun v i wr => ∃ k : Nat, k ≤ n ∧ i = .int .i64 k ∧ Own w.heap.size wr v (mk k (fun k => k)) ∧ Below w.heap.size w wr) (fun _ i _ => n - (intOf i).toNat)
  case atStart => exact ⟨0, Nat.zero_le _, rfl, o0, b0⟩
  case round =>
    clear o0 b0
    obtain ⟨k, hk, rfl, ho, hb⟩ := hrel
    by_cases hlt : k < n
    · have HM := hid (mk_succ k (fun k => k))
      have HLL := hid (mk_len k (fun k => k))
      have hsz := hb.size
      generalize mk k (fun k => k) = M at *
      go_wp2_with (at_builtin; refine wpList_app1 _ rfl _ _ rfl w.heap.size _ M rfl (ho.alloc _) wr.heap.size (k : Int) rfl (cell_one1 _ _ _) (by have := HLL.out; omega) (by simp <;> omega) ?_; intro A3 c3 w3 o3 b3)
      have b3' : Below w.heap.size w w3 := (hb.alloc hsz _).trans b3
      clear b3 hb ho
      go_wp2_with fail
      go_roundw
      case rel => exact ⟨k + 1, by omega, by go_num, by rw [HM.out]; exact o3, b3'⟩
      case measure => simp [intOf]; omega
    · obtain rfl : k = n := by omega
      obtain ⟨A4, c4, rfl, _⟩ := ho.form
      rw [mk_len] at *
      go_wp2_with fail
      go_ret
      exact retI_mk rfl ho hb

theorem bin_odd {a s t : Nat} {T : Int} (h : a + s * T.toNat = t) (h0 : 0 ≤ T) (h1 : T % 2 = 1) : s + a + (s + s) * (T / 2).toNat = t := by
  obtain ⟨q, hq⟩ : ∃ q, T.toNat = 2 * q + 1 := ⟨T.toNat / 2, by omega⟩
  have e : (T / 2).toNat = q := by omega
  rw [e, Nat.add_mul]
  rw [hq, Nat.mul_add, Nat.mul_left_comm] at h
  omega
theorem bin_even {a s t : Nat} {T : Int} (h : a + s * T.toNat = t) (h0 : 0 ≤ T) (h1 : ¬ T % 2 = 1) : a + (s + s) * (T / 2).toNat = t := by
  obtain ⟨q, hq⟩ : ∃ q, T.toNat = 2 * q := ⟨T.toNat / 2, by omega⟩
  have e : (T / 2).toNat = q := by omega
  rw [e, Nat.add_mul]
  rw [hq, Nat.mul_left_comm] at h
  omega

set_option maxHeartbeats 1000000 in
theorem sPowerOf_c (A : Option Addr) (c : Nat) (f : List Int) (t : Int) (w : World) (hR : RdA w A f) (hn : f.length ≤ 1048577) :
    Calls Try.prog 141 #[.slice A f.length c, .int .i64 t] w (RetI w (powL f t)) := by
  have o0 := own_empty w
  have b0 : Below w.heap.size w (w.alloc (.cells #[] 3)) := (Below.refl _ _).alloc (Nat.le_refl _) _
  have c1 := sMapOk_c A c f w hR hn
  by_cases hf : mapOkB f = true
  · rw [hf] at c1
    by_cases ht : 0 ≤ t ∧ t ≤ 1000000
    · have HE := hid (show powL f t = pw f t.toNat from if_pos ⟨hf, ht⟩)
      have c2 := l1In_t t 0 1000000 w ht
      have gf := good_of hf
      have h1 := gf.1.1
      have h7 := gf.1.2
      have c3 := hid (sSameOf_c f.length w h1 h7)
      have H0 := hid (show mk f.length (fun k => k) = pw f 0 from rfl)
      have H1 := hid (pw_one gf)
      have HL := hid (fun m => pw_len f m)
      have HB := hid (fun a b => behind_pw gf a b)
      have KB := hid (show ∀ (A' B' : Option Addr) c' d' W a b, RdA W A' (pw f a) → RdA W B' (pw f b) → Calls Try.prog 112 #[.slice A' f.length c', .slice B' f.length d'] W (RetI W (pw f (b + a))) from fun A' B' c' d' W a b hr hs => by
        have := sBehindOf_c A' B' c' d' (pw f a) (pw f b) W hr hs (by rw [HL.out]; omega) (by rw [HL.out]; omega)
        rwa [HB.out, HL.out, HL.out] at this)
      have HLf := hid (show ∀ m, (pw f m).length = f.length from fun m => pw_len f m)
      obtain ⟨ht0, ht1⟩ := ht
      obtain ⟨ad, rfl, -⟩ := hR.some_ (show 0 < f.length by omega)
      have HR := hid hR
      clear hf gf hR o0 b0 HB HL
      go_enter Try.func141, Try.ntmps141
      go_wp2_with fail
      refine c1.mono ?_; rintro e w' ⟨rfl, rfl⟩
      go_wp2_with fail
      refine c2.mono ?_; rintro e w' ⟨rfl, rfl⟩
      go_wp2_with fail
      refine c3.out.mono ?_; rintro e w3 ⟨A3, c3, rfl, o3, b3⟩
      rw [H0.out] at o3 ⊢
      rw [HLf.out] at o3 ⊢
      have oe := own_empty w3
      have be : Below w3.heap.size w3 (w3.alloc (.cells #[] 3)) := (Below.refl _ _).alloc (Nat.le_refl _) _
      have hsz := b3.size
      have hrd := ((HR.out.below b3).below be)
      clear c1 c2
      go_wp2_with (at_builtin; refine wpList_appE _ rfl _ _ rfl w3.heap.size _ rfl oe ad f c rfl (fun k hk => by obtain ⟨ad', e, hc⟩ := hrd k hk; cases e; exact hc) (by omega) (by simp <;> omega) ?_; intro A5 c5 w5 o5 b5)
      have b35 := be.trans b5
      have b5' := b3.trans (b35.mono hsz)
      have o3' := o3.below b35
      have o5' : Own w.heap.size w5 (.slice A5 f.length c5) (pw f 1) := by rw [H1.out]; exact o5.mono hsz
      clear b5 oe hrd be o5 b35 o3 b3
      go_wp2_with fail
      go_loopw [5, 6, 7] (fun v u i wr => ∃ (a s : Nat) (T : Int), i = .int .i64 T ∧ 0 ≤ T ∧ T ≤ 1000000 ∧ Hid (a + s * T.toNat = t.toNat) ∧ Own w.heap.size wr v (pw f a) ∧ Own w.heap.size wr u (pw f s) ∧ Below w.heap.size w wr) (fun _ _ i _ => (intOf i).toNat)
      case atStart => exact ⟨0, 1, t, rfl, ht0, ht1, hid (by omega), o3', o5', b5'⟩
      case round =>
        clear o3' o5' b5'
        obtain ⟨a, s, T, rfl, hT0, hT1, HT, ho, hu, hb⟩ := hrel
        obtain ⟨A6, c6, rfl, -⟩ := ho.form
        obtain ⟨A7, c7, rfl, -⟩ := hu.form
        rw [HLf.out] at ho hu
        simp only [HLf.out]
        have hbs := hb.size
        by_cases hpos : 0 < T
        · by_cases hodd : T % 2 = 1
          · have HN := hid (bin_odd HT.out hT0 hodd)
            have k1 := hid (KB.out A6 A7 c6 c7 wr a s ho.rd hu.rd)
            have K2 := hid (fun W h => KB.out A7 A7 c7 c7 W s s h h)
            have HM := hid (show (T / 2).toNat < T.toNat by omega)
            clear HT
            go_wp2_with fail
            refine k1.out.mono ?_; rintro e w8 ⟨A8, c8, rfl, o8, b8⟩
            rw [HLf.out] at o8 ⊢
            have hu8 := hu.below b8
            have k2 := hid (K2.out w8 hu8.rd)
            have hb8 := hb.trans (b8.mono hbs)
            have hbs8 := hb8.size
            clear k1 K2 hu
            go_wp2_with fail
            refine k2.out.mono ?_; rintro e w9 ⟨A9, c9, rfl, o9, b9⟩
            rw [HLf.out] at o9 ⊢
            have o8' := (o8.below b9).mono hbs
            have hb9 := hb8.trans (b9.mono hbs8)
            go_wp2_with fail
            go_roundw
            case rel => exact ⟨s + a, s + s, T / 2, rfl, by omega, by omega, HN, o8', o9.mono hbs8, hb9⟩
            case measure => simp [intOf]; have := HM.out; omega
          · have HN := hid (bin_even HT.out hT0 hodd)
            have k2 := hid (KB.out A7 A7 c7 c7 wr s s hu.rd hu.rd)
            have HM := hid (show (T / 2).toNat < T.toNat by omega)
            have q1 : (T % 2 == 1) = false := by simpa using hodd
            clear HT hodd
            go_wp2_with fail
            refine k2.out.mono ?_; rintro e w9 ⟨A9, c9, rfl, o9, b9⟩
            rw [HLf.out] at o9 ⊢
            have hb9 := hb.trans (b9.mono hbs)
            go_wp2_with fail
            go_roundw
            case rel => exact ⟨a, s + s, T / 2, rfl, by omega, by omega, HN, ho.below b9, o9.mono hbs, hb9⟩
            case measure => simp [intOf]; have := HM.out; omega
        · obtain rfl : T = 0 := by omega
          have e : a = t.toNat := by have := HT.out; simpa using this
          subst e
          rw [← HE.out] at ho
          go_wp2_with fail
          go_ret
          exact retI_own ho hb
    · have HE := hid (powL_no (f := f) (n := t) (fun h => ht h.2))
      have c2 := l1In_f t 0 1000000 w ht
      clear hf hR ht
      go_enter Try.func141, Try.ntmps141
      go_wp2_with fail
      refine c1.mono ?_; rintro e w' ⟨rfl, rfl⟩
      go_wp2_with fail
      refine c2.mono ?_; rintro e w' ⟨rfl, rfl⟩
      go_wp2_with fail
      go_ret
      rw [HE.out]
      exact retI_own o0 b0
  · have HE := hid (powL_no (f := f) (n := t) (fun h => hf h.1))
    rw [show mapOkB f = false by simpa using hf] at c1
    clear hf hR
    go_enter Try.func141, Try.ntmps141
    go_wp2_with fail
    refine c1.mono ?_; rintro e w' ⟨rfl, rfl⟩
    go_wp2_with fail
    go_ret
    rw [HE.out]
    exact retI_own o0 b0

end Go.Proofs.Ytenmgiocbdabdaa
