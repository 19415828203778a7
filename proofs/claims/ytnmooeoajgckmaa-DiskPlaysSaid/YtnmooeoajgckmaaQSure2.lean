/- Part of the proof (text QSure2): an engine, rules or contracts of the functions; it states nothing of the claim by itself. -/
import Derived.Test.YtnmooeoajgckmaaQSure
/- DiskSure, its other half: the writes, the flush and the crash. -/
set_option linter.unusedVariables false
set_option linter.unusedSimpArgs false
namespace Go.Proofs
open Go Go.Q
theorem logA_len (n : Nat) : (logA n).length = n := by simp [logA]
theorem logB_len (again : Int) (n : Nat) : (logB again n).length ≤ n := by
  unfold logB; rw [List.length_map]
  exact Nat.le_trans (List.length_filter_le _ _) (by simp)
theorem applyAll_len : ∀ (l : List (Nat × List UInt8)) (L : List (List UInt8)), (applyAll L l).length = L.length := by
  intro l
  induction l with
  | nil => intro L; rfl
  | cons x r ih =>
    intro L
    show (applyAll (L.set x.1 x.2) r).length = _
    rw [ih]; simp
theorem applyAll_snoc (L : List (List UInt8)) (l : List (Nat × List UInt8)) (x : Nat × List UInt8) : applyAll L (l ++ [x]) = (applyAll L l).set x.1 x.2 := by
  unfold applyAll; rw [List.foldl_append]; rfl
theorem dA_write {i n : Nat} (hi : i < 16) : (dA i n).write (i : Int) (fill32 (let0 97 i)) = (dA (i + 1) n, 0) := by
  have h := write_calm (d := dA i n) rfl rfl (i := i) (by simp [dA, secA_len]; exact hi) (s := fill32 (let0 97 i)) (by simp)
  rw [h]
  simp only [dA, secA_set hi, logA_succ]
theorem dA_flush {n m : Nat} (hn : n ≤ 16) : (dA n m).flush = (dB n 0 0, 0) := by
  have h := flush_calm (d := dA n m) rfl rfl
  rw [h]
  simp only [dA, dB, applyA n hn, logB]
  rfl
theorem dB_zero (n : Nat) (again : Int) : dB n 0 0 = dB n again 0 := rfl
theorem dB_write {n i : Nat} {again : Int} (hi : i < 16) (hb : bitOf again i = true) : (dB n again i).write (i : Int) (fill32 (let0 65 i)) = (dB n again (i + 1), 0) := by
  have h := write_calm (d := dB n again i) rfl rfl (i := i) (by simp [dB, applyAll_len, secA_len]; exact hi) (s := fill32 (let0 65 i)) (by simp)
  rw [h]
  simp only [dB, logB_succ, hb, if_true, applyAll_snoc]
theorem dB_skip {n i : Nat} {again : Int} (hb : ¬ bitOf again i = true) : dB n again (i + 1) = dB n again i := by
  simp only [dB, logB_succ, hb]
  rfl
theorem dB_crash (n : Nat) (again : Int) (ks : List Int) : (dB n again 16).crash ks = dC n again ks := rfl
section
variable {w0 : World} {b n : Nat} {again : Int} {kv : Value} {ks : List Int} {SK : List Nat}
theorem sure_s8 {R : Value → World → Prop} (hR : ∀ w', Kp [] w0 w' → R (.bool true) w') (hn : n ≤ 16) (ha : -9223372036854775808 ≤ again ∧ again < 9223372036854775808)
    (hks : IntsAt w0 kv ks SK) (hSK : ∀ x ∈ SK, x < w0.heap.size) (hkw : ∀ x ∈ ks, -9223372036854775808 ≤ x ∧ x < 9223372036854775808) {w : World} {S : List Nat} (o : Own w0 w b (dB n again 16) S) :
    law03_DiskSure_s8 R (.int .i64 again) kv (.pointer (some ⟨b, 0, none⟩)) (.int .i64 n) w := by
  unfold law03_DiskSure_s8
  have hl := logB_len again 16
  refine own_crash o (by simp only [dB]; omega) (hks.keep o.kp (by simp)) (fun x hx hxS => by have := hSK x hx; have := o.new x hxS; omega) hkw fun w1 o1 _ => ?_
  rw [dB_crash] at o1
  simp [-getElem?_pos, -Array.getElem?_eq_getElem, -List.length_flatten]
  exact sure_loop3 hR hn ha hks hkw o1
theorem sure_loop2 {R : Value → World → Prop} (hR : ∀ w', Kp [] w0 w' → R (.bool true) w') (hn : n ≤ 16) (ha : -9223372036854775808 ≤ again ∧ again < 9223372036854775808)
    (hks : IntsAt w0 kv ks SK) (hSK : ∀ x ∈ SK, x < w0.heap.size) (hkw : ∀ x ∈ ks, -9223372036854775808 ≤ x ∧ x < 9223372036854775808) {w : World} {S : List Nat} (o : Own w0 w b (dB n again 0) S) :
    law03_DiskSure_L10 R (.int .i64 again) kv (.pointer (some ⟨b, 0, none⟩)) (.int .i64 n) (.int .i64 0) w := by
  unfold law03_DiskSure_L10
  refine loop_inv (fun m xs w => ∃ i S, i ≤ 16 ∧ m = 16 - i ∧ xs = [.int .i64 again, kv, .pointer (some ⟨b, 0, none⟩), .int .i64 n, .int .i64 (i : Nat)] ∧ Own w0 w b (dB n again i) S)
    ?_ (m := 16) ⟨0, S, by omega, rfl, rfl, o⟩
  rintro m N xs w ⟨i, S, hi, rfl, rfl, o⟩ hN
  simp only [law03_DiskSure_L10F, law03_DiskSure_b9, bq_lss, bV_b]
  have hin : ∀ w' S', Own w0 w' b (dB n again (i + 1)) S' → i < 16 → N [.int .i64 again, kv, .pointer (some ⟨b, 0, none⟩), .int .i64 n, .int .i64 ((i + 1 : Nat) : Int)] w' :=
    fun w' S' o' h => hN (16 - (i + 1)) _ _ (by omega) ⟨i + 1, S', by omega, rfl, rfl, o'⟩
  refine ⟨fun hlt => ?_, fun hge => ?_⟩
  · have hlt : i < 16 := by simp at hlt; omega
    have hiw : IntKind.i64.wrap ((i : Int) + 1) = ((i + 1 : Nat) : Int) := by rw [w64 (by omega) (by omega)]; simp
    rw [shr_of (by omega) (by simp [IntKind.bits]; omega)]
    have hb2 : decide ((again / 2 ^ (i : Int).toNat % 2) = 1) = bitOf again i := by simp [bitOf]
    simp only [and1, bq_eql, bV_b, hb2]
    refine ⟨fun hbt => ?_, fun hbf => ?_⟩
    · have hA : IntKind.u8.wrap (65 + (i : Int)) = ((let0 65 i).toNat : Int) := by rw [wrap_u8 (by omega) (by omega), let0_nat (by omega)]; rfl
      have hw65 : IntKind.i64.wrap (65 + (i : Int)) = 65 + (i : Int) := w64 (by omega) (by omega)
      simp only [bq_add, hw65, cvI_i, hA]
      refine filled_spec (let0 65 i) fun w2 hk2 => ?_
      have hl := logB_len again i
      refine own_write (o.keep hk2) (by simp only [dB]; omega) i _ fun w3 S3 o3 _ _ => ?_
      rw [dB_write hlt hbt] at o3 ⊢
      simp [-getElem?_pos, -Array.getElem?_eq_getElem, -List.length_flatten, hiw]
      exact hin _ _ o3 hlt
    · rw [← dB_skip (by simp [hbf])] at o
      simp [-getElem?_pos, -Array.getElem?_eq_getElem, -List.length_flatten, hiw]
      exact hin _ _ o hlt
  · have hie : i = 16 := by simp at hge; omega
    subst hie
    exact sure_s8 hR hn ha hks hSK hkw o
theorem sure_s12 {R : Value → World → Prop} (hR : ∀ w', Kp [] w0 w' → R (.bool true) w') (hn : n ≤ 16) (ha : -9223372036854775808 ≤ again ∧ again < 9223372036854775808)
    (hks : IntsAt w0 kv ks SK) (hSK : ∀ x ∈ SK, x < w0.heap.size) (hkw : ∀ x ∈ ks, -9223372036854775808 ≤ x ∧ x < 9223372036854775808) {w : World} {S : List Nat} (o : Own w0 w b (dA n 0) S) :
    law03_DiskSure_s12 R (.int .i64 again) kv (.pointer (some ⟨b, 0, none⟩)) (.int .i64 n) w := by
  unfold law03_DiskSure_s12
  refine own_flush o (by simp only [dA, logA_len]; omega) fun w1 o1 _ => ?_
  rw [dA_flush hn, dB_zero n again] at o1
  rw [dA_flush hn]
  simp [-getElem?_pos, -Array.getElem?_eq_getElem, -List.length_flatten]
  unfold law03_DiskSure_s11
  exact sure_loop2 hR hn ha hks hSK hkw o1
theorem sure_loop1 {R : Value → World → Prop} (hR : ∀ w', Kp [] w0 w' → R (.bool true) w') (hn : n ≤ 16) (ha : -9223372036854775808 ≤ again ∧ again < 9223372036854775808)
    (hks : IntsAt w0 kv ks SK) (hSK : ∀ x ∈ SK, x < w0.heap.size) (hkw : ∀ x ∈ ks, -9223372036854775808 ≤ x ∧ x < 9223372036854775808) {w : World} {S : List Nat} (o : Own w0 w b (dA 0 0) S) :
    law03_DiskSure_L14 R (.int .i64 again) kv (.pointer (some ⟨b, 0, none⟩)) (.int .i64 n) (.int .i64 0) w := by
  unfold law03_DiskSure_L14
  refine loop_inv (fun m xs w => ∃ i S, i ≤ n ∧ m = n - i ∧ xs = [.int .i64 again, kv, .pointer (some ⟨b, 0, none⟩), .int .i64 n, .int .i64 (i : Nat)] ∧ Own w0 w b (dA i 0) S)
    ?_ (m := n) ⟨0, S, by omega, rfl, rfl, o⟩
  rintro m N xs w ⟨i, S, hi, rfl, rfl, o⟩ hN
  simp only [law03_DiskSure_L14F, law03_DiskSure_b13, bq_lss, bV_b]
  have hin : ∀ w' S', Own w0 w' b (dA (i + 1) 0) S' → i < n → N [.int .i64 again, kv, .pointer (some ⟨b, 0, none⟩), .int .i64 n, .int .i64 ((i + 1 : Nat) : Int)] w' :=
    fun w' S' o' h => hN (n - (i + 1)) _ _ (by omega) ⟨i + 1, S', by omega, rfl, rfl, o'⟩
  refine ⟨fun hlt => ?_, fun hge => ?_⟩
  · have hlt : i < n := by simp at hlt; omega
    have hiw : IntKind.i64.wrap ((i : Int) + 1) = ((i + 1 : Nat) : Int) := by rw [w64 (by omega) (by omega)]; simp
    have hA : IntKind.u8.wrap (97 + (i : Int)) = ((let0 97 i).toNat : Int) := by rw [wrap_u8 (by omega) (by omega), let0_nat (by omega)]; rfl
    have hw97 : IntKind.i64.wrap (97 + (i : Int)) = 97 + (i : Int) := w64 (by omega) (by omega)
    simp only [bq_add, hw97, cvI_i, hA]
    refine filled_spec (let0 97 i) fun w2 hk2 => ?_
    refine own_write (o.keep hk2) (by simp only [dA, logA_len]; omega) i _ fun w3 S3 o3 _ _ => ?_
    rw [dA_write (by omega)] at o3 ⊢
    simp [-getElem?_pos, -Array.getElem?_eq_getElem, -List.length_flatten, hiw]
    exact hin _ _ o3 hlt
  · have hie : i = n := by simp at hge; omega
    subst hie
    exact sure_s12 hR hn ha hks hSK hkw o
theorem sure_call {many again : Int} {R : Value → World → Prop} (hR : ∀ w', Kp [] w0 w' → R (.bool true) w') (ha : -9223372036854775808 ≤ again ∧ again < 9223372036854775808)
    (hks : IntsAt w0 kv ks SK) (hSK : ∀ x ∈ SK, x < w0.heap.size) (hkw : ∀ x ∈ ks, -9223372036854775808 ≤ x ∧ x < 9223372036854775808) :
    callG Try.prog 3 #[.int .i64 many, .int .i64 again, kv] w0 R := by
  refine law03_DiskSure_call ?_
  simp only [law03_DiskSure, law03_DiskSure_s17]
  refine own_new (n := 16) (Kp.refl [] w0) (by omega) (by omega) fun w1 b S1 o1 _ => ?_
  simp [-getElem?_pos, -Array.getElem?_eq_getElem, -List.length_flatten, List.getElem?_cons_zero, List.getElem?_cons_succ]
  simp only [law03_DiskSure_s16, and15, law03_DiskSure_s15]
  obtain ⟨n, hn⟩ : ∃ n : Nat, many % 16 = (n : Int) := ⟨(many % 16).toNat, by have := Int.emod_nonneg many (show (16 : Int) ≠ 0 by omega); omega⟩
  rw [hn]
  have hn16 : n ≤ 16 := by have := Int.emod_lt_of_pos many (show (0 : Int) < 16 by omega); omega
  have hd : DK.fresh 16 = dA 0 0 := by unfold DK.fresh dA; rw [secA_zero]; rfl
  rw [hd] at o1
  exact sure_loop1 hR hn16 ha hks hSK hkw o1
end
end Go.Proofs
