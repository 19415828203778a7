/- Part of the proof (J2): an engine, rules or contracts of the functions; it states nothing of the claim by itself. -/
import Derived.Test.YtcekhmkhagakiaaJ1

/- Layer 5: values and rows, as bytes and back: what each function does. -/
set_option linter.unusedVariables false
set_option linter.unusedSimpArgs false
namespace Go.Proofs
open Go Go.Q
theorem zcV : zc Try.prog 79 = #[.int .i64 0, .int .i64 0, .string ⟨#[]⟩] := by kernel_rfl
theorem zcVl : zc Try.prog 79 = [.int .i64 0, .int .i64 0, .string ⟨#[]⟩].toArray := by kernel_rfl
theorem eqVal {a b a' b' : Int} {s s' : ByteArray} : aggEq Try.prog 79 [.int .i64 a, .int .i64 b, .string s] [.int .i64 a', .int .i64 b', .string s'] = true := by kernel_rfl
theorem mod2 {n : Int} : (n = n % 2) = (n = 0 ∨ n = 1) := by apply propext; omega
theorem le64 {s : List UInt8} : ((s.length : Int) ≤ 64) = (s.length ≤ 64) := by apply propext; omega
theorem lt64 {s : List UInt8} : (64 < (s.length : Int)) = ¬ (s.length ≤ 64) := by apply propext; omega
theorem Check_spec {w : World} (v : V3) {K : Value → World → Prop} (hK : ∀ w', Kp [] w w' → K (.int .i64 (if v.ok = true then 0 else 1)) w') : callG Try.prog 79 #[.agg #[.int .i64 v.k, .int .i64 v.n, .string (str v.s)]] w K := by
  refine value_Check_call ?_
  obtain ⟨k, n, s⟩ := v
  simp only [value_Check, value_Check_s0]
  have hk := hK _ (kp_alloc (w := w) (o := .cells #[.int .i64 k, .int .i64 n, .string (str s)] 79))
  simp [-getElem?_pos, -Array.all_eq_true, -Array.getElem?_eq_getElem, -List.length_flatten, List.getElem?_cons_zero, List.getElem?_cons_succ, heap_new, zcVl, bld_done, bld_if, offAt, putAt, eqVal, str_nil, mod2, le64, lt64]
  generalize w.alloc _ = W at hk ⊢
  unfold V3.ok at hk
  simp only at hk
  by_cases h0 : k = 0
  · by_cases c : n = 0 ∧ s = [] <;> simp_all
  by_cases h1 : k = 1
  · by_cases c : s = [] <;> simp_all
  by_cases h2 : k = 2
  · by_cases c : n = 0 ∧ s.length ≤ 64 <;> simp_all
    · intros; omega
    · intro a b; have := c a; omega
  by_cases h3 : k = 3
  · by_cases c : (n = 0 ∨ n = 1) ∧ s = [] <;> simp_all
    · intros; omega
    · intro a b; exact absurd b (c (by omega))
  simp_all
theorem May_spec {w : World} (v : V3) {K : Value → World → Prop} (hK : ∀ w', Kp [] w w' → K (.bool v.ok) w') : callG Try.prog 83 #[.agg #[.int .i64 v.k, .int .i64 v.n, .string (str v.s)]] w K := by
  refine ref05_May_call ?_
  obtain ⟨k, n, s⟩ := v
  simp only [ref05_May, ref05_May_s0]
  have hk := hK _ (kp_alloc (w := w) (o := .cells #[.int .i64 k, .int .i64 n, .string (str s)] 79))
  simp [-getElem?_pos, -Array.all_eq_true, -Array.getElem?_eq_getElem, -List.length_flatten, List.getElem?_cons_zero, List.getElem?_cons_succ, heap_new, str_nil, le64]
  generalize w.alloc _ = W at hk ⊢
  unfold V3.ok at hk
  simp only at hk
  by_cases h0 : k = 0
  · by_cases c : n = 0 <;> simp_all
  by_cases h1 : k = 1
  · by_cases c : s = [] <;> simp_all
  by_cases h2 : k = 2
  · by_cases c : n = 0 <;> simp_all
  by_cases h3 : k = 3
  · by_cases c : n = 0 <;> by_cases c2 : n = 1 <;> simp_all
  simp_all
theorem bytes_spec {w : World} (v : V3) (hw : v.Wf) {K : Value → World → Prop} (hK : ∀ w', Kp [] w w' → K (.string (str v.bytes)) w') : callG Try.prog 81 #[.agg #[.int .i64 v.k, .int .i64 v.n, .string (str v.s)]] w K := by
  refine value_bytes_call ?_
  have hs := hw.s
  have hn0 := hw.n0
  have hn1 := hw.n1
  obtain ⟨k, n, s⟩ := v
  simp only at hs hn0 hn1
  simp only [value_bytes, value_bytes_s8, newG_k, cells_agg]
  obtain ⟨w1, hw1⟩ := ex_w (w' := w.alloc (.cells #[.int .i64 k, .int .i64 n, .string (str s)] 79))
  have hk1 : Kp [] w w1 := by rw [hw1]; exact kp_alloc
  have hb1 : w1.heap[w.heap.size]? = some (.cells #[.int .i64 k, .int .i64 n, .string (str s)] 79) := by rw [hw1]; exact heap_new
  rw [← hw1]
  simp [-getElem?_pos, -Array.all_eq_true, -Array.getElem?_eq_getElem, -List.length_flatten, List.getElem?_cons_zero, List.getElem?_cons_succ, hb1, wrap_u8]
  refine bsl_byte _ fun v2 w2 h2 => ?_
  have hb2 := h2.kp.get hb1 (by simp)
  unfold value_bytes_s7 value_bytes_s6 value_bytes_s5
  simp [-getElem?_pos, -Array.all_eq_true, -Array.getElem?_eq_getElem, -List.length_flatten, List.getElem?_cons_zero, List.getElem?_cons_succ, hb2]
  have fin : ∀ w' v' l, Fr w1 w' v' 1 (l.map byteV) → V3.bytes ⟨k, n, s⟩ = l → value_bytes_s0 K v' w' := by
    intro w' v' l h' hl
    unfold value_bytes_s0
    rw [h'.text, ← hl]
    exact hK w' (hk1.trans' h'.kp)
  refine ⟨fun hk => ?_, fun hk => ?_⟩
  · subst hk
    unfold value_bytes_s3
    simp [-getElem?_pos, -Array.all_eq_true, -Array.getElem?_eq_getElem, -List.length_flatten, List.getElem?_cons_zero, List.getElem?_cons_succ, hb2]
    rw [top_u64 hn0 hn1]
    obtain ⟨N, hN⟩ : ∃ N, N = (n + 9223372036854775808).toNat := ⟨_, rfl⟩
    rw [← hN]
    unfold value_bytes_L2
    refine loop_inv (fun m xs wi => ∃ i vi, i ≤ 8 ∧ m = 8 - i ∧ xs = [vi, .int .u64 N, .int .i64 (i : Nat)] ∧ Fr w1 wi vi 1 ((bOf 1 :: (be8 n).take i).map byteV)) ?_ (m := 8) ⟨0, v2, by omega, rfl, rfl, h2⟩
    rintro m N1 xs wi ⟨i, vi, hi, rfl, rfl, hf⟩ hN1
    simp only [value_bytes_L2F, value_bytes_b1, bq_lss, bV_b]
    refine ⟨fun hlt => ?_, fun hge => ?_⟩
    · have hi : i < 8 := by simp at hlt; omega
      have e1 : IntKind.i64.wrap (7 - (i : Int)) = 7 - (i : Int) := w64 (by omega) (by omega)
      have e2 : IntKind.i64.wrap (8 * (7 - (i : Int))) = 8 * (7 - (i : Int)) := w64 (by omega) (by omega)
      have e3 : IntKind.i64.wrap ((i : Int) + 1) = ((i + 1 : Nat) : Int) := by rw [w64 (by omega) (by omega)]; simp
      simp only [bq_sub, bq_mul, bq_add, e1, e2, e3]
      rw [shr_of (by omega) (by simp [IntKind.bits]; omega)]
      simp only [cvI_i, wrap_u8]
      rw [bOf_shift hi]
      refine bsl_byte _ fun v3 w3 h3 => ?_
      have hf3 := hf.keep h3.kp
      refine byte_app (by kernel_rfl) hf3 h3.rd (by simp [be8_len]; omega) fun v4 w4 h4 => ?_
      have hg : (be8 n)[i]? = some (UInt8.ofNat (N / 256 ^ (8 - 1 - i) % 256)) := by rw [hN]; exact be_get hi
      rw [List.cons_append, take_snoc hg] at h4
      exact hN1 (8 - (i + 1)) _ _ (by omega) ⟨i + 1, v4, by omega, rfl, rfl, h4⟩
    · have hie : i = 8 := by simp at hge; omega
      subst hie
      rw [List.take_of_length_le (by simp [be8_len])] at hf
      exact fin _ _ _ hf rfl
  · unfold value_bytes_s4
    simp [-getElem?_pos, -Array.all_eq_true, -Array.getElem?_eq_getElem, -List.length_flatten, List.getElem?_cons_zero, List.getElem?_cons_succ, hb2]
    refine ⟨fun hk2 => ?_, fun hk2 => ⟨fun hk3 => ?_, fun hk3 => ?_⟩⟩
    · subst hk2
      rw [wrap_u8]
      have hb2d : w2.drew.heap[w.heap.size]? = some (.cells #[.int .i64 2, .int .i64 n, .string (str s)] 79) := hb2
      refine bsl_byte _ fun v3 w3 h3 => ?_
      have h2d := h2.keep kp_drew
      have hb3 := h3.kp.get hb2d (by simp)
      simp [-getElem?_pos, -Array.all_eq_true, -Array.getElem?_eq_getElem, -List.length_flatten, List.getElem?_cons_zero, List.getElem?_cons_succ, hb3]
      refine byte_app (by kernel_rfl) (h2d.keep h3.kp) h3.rd (by simp) fun v4 w4 h4 => ?_
      have hb4 := h4.kp.get hb1 (by simp)
      simp [-getElem?_pos, -Array.all_eq_true, -Array.getElem?_eq_getElem, -List.length_flatten, List.getElem?_cons_zero, List.getElem?_cons_succ, hb4]
      refine bytes_app (by kernel_rfl) h4 s (by simp; omega) fun v5 w5 h5 => ?_
      exact fin _ _ _ h5 rfl
    · subst hk3
      rw [wrap_u8]
      refine bsl_byte _ fun v3 w3 h3 => ?_
      refine byte_app (by kernel_rfl) (h2.keep h3.kp) h3.rd (by simp) fun v4 w4 h4 => ?_
      exact fin _ _ _ h4 rfl
    · exact fin _ _ _ h2 (by simp [V3.bytes, hk, hk2, hk3])
theorem refBytes_spec {w : World} (v : V3) (hw : v.Wf) {K : Value → World → Prop} (hK : ∀ w', Kp [] w w' → K (.string (str v.bytes)) w') : callG Try.prog 84 #[.agg #[.int .i64 v.k, .int .i64 v.n, .string (str v.s)]] w K := by
  refine ref05_bytes_call ?_
  have hs := hw.s
  have hn0 := hw.n0
  have hn1 := hw.n1
  obtain ⟨k, n, s⟩ := v
  simp only at hs hn0 hn1
  simp only [ref05_bytes, ref05_bytes_s8, newG_k, cells_agg]
  obtain ⟨w1, hw1⟩ := ex_w (w' := w.alloc (.cells #[.int .i64 k, .int .i64 n, .string (str s)] 79))
  have hk1 : Kp [] w w1 := by rw [hw1]; exact kp_alloc
  have hb1 : w1.heap[w.heap.size]? = some (.cells #[.int .i64 k, .int .i64 n, .string (str s)] 79) := by rw [hw1]; exact heap_new
  rw [← hw1]
  simp [-getElem?_pos, -Array.all_eq_true, -Array.getElem?_eq_getElem, -List.length_flatten, List.getElem?_cons_zero, List.getElem?_cons_succ, hb1, wrap_u8, bOf_mod]
  refine bsl_byte _ fun v2 w2 h2 => ?_
  have hb2 := h2.kp.get hb1 (by simp)
  unfold ref05_bytes_s7 ref05_bytes_s6 ref05_bytes_s5
  simp [-getElem?_pos, -Array.all_eq_true, -Array.getElem?_eq_getElem, -List.length_flatten, List.getElem?_cons_zero, List.getElem?_cons_succ, hb2]
  have fin : ∀ w' v' l, Fr w1 w' v' 1 (l.map byteV) → V3.bytes ⟨k, n, s⟩ = l → ref05_bytes_s0 K v' w' := by
    intro w' v' l h' hl
    unfold ref05_bytes_s0
    rw [h'.text, ← hl]
    exact hK w' (hk1.trans' h'.kp)
  refine ⟨fun hk => ?_, fun hk => ?_⟩
  · subst hk
    unfold ref05_bytes_s3 ref05_bytes_L2
    refine loop_inv (fun m xs wi => ∃ i vi, i ≤ 8 ∧ m = 8 - i ∧ xs = [.pointer (some ⟨w.heap.size, 0, none⟩), vi, .int .i64 (7 - (i : Int))] ∧ Fr w1 wi vi 1 ((bOf 1 :: (be8 n).take i).map byteV)) ?_ (m := 8) ⟨0, v2, by omega, rfl, rfl, h2⟩
    rintro m N1 xs wi ⟨i, vi, hi, rfl, rfl, hf⟩ hN1
    simp only [ref05_bytes_L2F, ref05_bytes_b1, bq_geq, bV_b]
    refine ⟨fun hlt => ?_, fun hge => ?_⟩
    · have hi : i < 8 := by simp at hlt; omega
      have e2 : IntKind.i64.wrap (8 * (7 - (i : Int))) = 8 * (7 - (i : Int)) := w64 (by omega) (by omega)
      have e3 : IntKind.i64.wrap (7 - (i : Int) - 1) = 7 - ((i + 1 : Nat) : Int) := by rw [w64 (by omega) (by omega)]; omega
      have hbi := hf.kp.get hb1 (by simp)
      have hg := be8_get hn0 hn1 hi
      have e4 : (8 * (7 - (i : Int))).toNat = 8 * (7 - i) := by omega
      simp [-getElem?_pos, -Array.all_eq_true, -Array.getElem?_eq_getElem, -List.length_flatten, List.getElem?_cons_zero, List.getElem?_cons_succ, hbi, e2]
      rw [shr_of (by omega) (by simp [IntKind.bits]; omega), e4]
      simp [-getElem?_pos, -Array.all_eq_true, -Array.getElem?_eq_getElem, -List.length_flatten, List.getElem?_cons_zero, List.getElem?_cons_succ, wrap_u8, bOf_mod, e3]
      refine ⟨fun h7 => ?_, fun h7 => ?_⟩
      · have hi0 : i = 0 := by omega
        subst hi0
        have hx := (bOf (n / 2 ^ (8 * (7 - 0)))).toNat_lt
        rw [show (128 : Int) = ((128 : Nat) : Int) from rfl, xoru8_of hx (by omega), xor_top8 hx]
        have e5 : (((bOf (n / 2 ^ (8 * (7 - 0)))).toNat + 128) % 256 : Nat) = (bOf (n / 2 ^ (8 * (7 - 0)) + 128)).toNat := by
          unfold bOf
          simp
          omega
        rw [e5]
        refine bsl_byte _ fun v3 w3 h3 => ?_
        refine byte_app (by kernel_rfl) (hf.keep h3.kp) h3.rd (by simp) fun v4 w4 h4 => ?_
        rw [if_pos rfl] at hg
        rw [List.cons_append, take_snoc hg] at h4
        exact hN1 (8 - (0 + 1)) _ _ (by omega) ⟨0 + 1, v4, by omega, rfl, rfl, h4⟩
      · rw [if_neg (by omega), Int.add_zero] at hg
        refine bsl_byte _ fun v3 w3 h3 => ?_
        refine byte_app (by kernel_rfl) (hf.keep h3.kp) h3.rd (by simp [be8_len]; omega) fun v4 w4 h4 => ?_
        rw [List.cons_append, take_snoc hg] at h4
        exact hN1 (8 - (i + 1)) _ _ (by omega) ⟨i + 1, v4, by omega, rfl, rfl, h4⟩
    · have hie : i = 8 := by simp at hge; omega
      subst hie
      rw [List.take_of_length_le (by simp [be8_len])] at hf
      exact fin _ _ _ hf rfl
  · unfold ref05_bytes_s4
    simp [-getElem?_pos, -Array.all_eq_true, -Array.getElem?_eq_getElem, -List.length_flatten, List.getElem?_cons_zero, List.getElem?_cons_succ, hb2]
    refine ⟨fun hk2 => ?_, fun hk2 => ⟨fun hk3 => ?_, fun hk3 => ?_⟩⟩
    · subst hk2
      rw [wrap_u8, bOf_mod]
      refine bsl_byte _ fun v3 w3 h3 => ?_
      refine byte_app (by kernel_rfl) (h2.keep h3.kp) h3.rd (by simp) fun v4 w4 h4 => ?_
      have hb4 := h4.kp.get hb1 (by simp)
      simp [-getElem?_pos, -Array.all_eq_true, -Array.getElem?_eq_getElem, -List.length_flatten, List.getElem?_cons_zero, List.getElem?_cons_succ, hb4]
      refine bytes_app (by kernel_rfl) h4 s (by simp; omega) fun v5 w5 h5 => ?_
      exact fin _ _ _ h5 rfl
    · subst hk3
      rw [wrap_u8, bOf_mod]
      refine bsl_byte _ fun v3 w3 h3 => ?_
      refine byte_app (by kernel_rfl) (h2.keep h3.kp) h3.rd (by simp) fun v4 w4 h4 => ?_
      exact fin _ _ _ h4 rfl
    · exact fin _ _ _ h2 (by simp [V3.bytes, hk, hk2, hk3])
end Go.Proofs

/- Layer 5: values and rows taken from bytes: what each function does. -/
set_option linter.unusedVariables false
set_option linter.unusedSimpArgs false
namespace Go.Proofs
open Go Go.Q
theorem aggValT : aggO Try.prog 79 = some true := by kernel_rfl
theorem szValT : szO Try.prog 79 = some 3 := by kernel_rfl
theorem one_ret {w0 w : World} {a b : Nat} {ca : Array Value} {k n : Int} {s : ByteArray} (ha : w.heap[a]? = some (.cells ca 79)) (hsz : ca.size = 3) (hb : w.heap[b]? = some (.cells #[.int .i64 k, .int .i64 n, .string s] 79)) (ha0 : w0.heap.size ≤ a) (hk : Kp [] w0 w)
    {K : Value → World → Prop} (hK : ∀ w', Kp [] w0 w' → K (.agg #[.int .i64 k, .int .i64 n, .string s]) w') :
    ldn 3 (.pointer (some ⟨b, 0, none⟩)) w fun t => stn 3 (.pointer (some ⟨a, 0, none⟩)) t w fun w => qG Try.prog (do loadVar 79 (← asAddr (.pointer (some ⟨a, 0, none⟩)))) w fun r => K r w := by
  have la := live_of ha
  simp [-getElem?_pos, -Array.all_eq_true, -Array.getElem?_eq_getElem, -List.length_flatten, List.getElem?_cons_zero, List.getElem?_cons_succ, hb, ha, hsz]
  rw [splice_all (by simp [hsz]), loadVar_of aggValT szValT (heap_self la) rfl]
  exact hK _ (hk.setBlk (.inr ha0) _)
section
variable {w0 : World} {a b : Nat} {R : Value → World → Prop}
theorem one_s0 {w : World} {ca : Array Value} {v : V3} {t : List UInt8} {p : Nat} (hp : p ≤ t.length) (ha : w.heap[a]? = some (.cells ca 79)) (hsz : ca.size = 3) (hb : w.heap[b]? = some (.cells #[.int .i64 v.k, .int .i64 v.n, .string (str v.s)] 79))
    (ha0 : w0.heap.size ≤ a) (hk : Kp [] w0 w) (hR : ∀ w', Kp [] w0 w' → R (.tuple #[.agg #[.int .i64 v.k, .int .i64 v.n, .string (str v.s)], .string (str (t.drop p)), .bool v.ok]) w') :
    value_one_s0 R (.string (str t)) (.pointer (some ⟨a, 0, none⟩)) (.pointer (some ⟨b, 0, none⟩)) (.int .i64 p) w := by
  unfold value_one_s0
  have hx : (str t).extract p t.length = str (t.drop p) := by rw [str_extract, List.take_length]
  simp [-getElem?_pos, -Array.all_eq_true, -Array.getElem?_eq_getElem, -List.length_flatten, List.getElem?_cons_zero, List.getElem?_cons_succ, hb, hx, hp]
  refine Check_spec v fun w1 hk1 => ?_
  have hkd : Kp [] w w1 := kp_drew.trans' hk1
  have ha1 := hkd.get ha (by simp)
  have hb1 := hkd.get hb (by simp)
  have la := live_of ha1
  have hok : (decide ((if v.ok = true then (0 : Int) else 1) = 0)) = v.ok := by cases v.ok <;> rfl
  simp only [bq_eql, stb_eql, hok]
  simp [-getElem?_pos, -Array.all_eq_true, -Array.getElem?_eq_getElem, -List.length_flatten, List.getElem?_cons_zero, List.getElem?_cons_succ, hb1, ha1, hsz]
  rw [splice_all (by simp [hsz]), loadVar_of aggValT szValT (heap_self la) rfl]
  exact hR _ ((hk.trans' hkd).setBlk (.inr ha0) _)
theorem V3.ok1 (n : Int) : V3.ok ⟨1, n, []⟩ = true := rfl
theorem wrap_top {x : Nat} (h : x < 2 ^ 64) : IntKind.i64.wrap (((x + 2 ^ 63) % 2 ^ 64 : Nat) : Int) = (x : Int) - 9223372036854775808 := by
  rcases Nat.lt_or_ge x (2 ^ 63) with h1 | h1
  · obtain ⟨y, hy⟩ : ∃ y, y = (x + 2 ^ 63) % 2 ^ 64 := ⟨_, rfl⟩
    have hy2 : y = x + 9223372036854775808 := by omega
    rw [← hy, hy2]
    simp only [IntKind.wrap, IntKind.bits, IntKind.signed]
    simp
    omega
  · obtain ⟨y, hy⟩ : ∃ y, y = (x + 2 ^ 63) % 2 ^ 64 := ⟨_, rfl⟩
    have hy2 : y = x - 9223372036854775808 := by omega
    rw [← hy, hy2, w64 (by omega) (by omega)]
    omega
theorem lvV {b : Nat} {w : World} {c : Array Value} {T : TypeId} {fr : Nat × Nat} (hb : Live w b) (hs : c.size = 3) {K : Value → Prop} :
    qG Try.prog (do loadVar 79 (← asAddr (.pointer (some ⟨b, 0, none⟩)))) (setBlk w b (.cells c T fr)) K = K (.agg c) := loadVar_of aggValT szValT (heap_self hb) hs
theorem lvVd {b : Nat} {w : World} {c : Array Value} {T : TypeId} {fr : Nat × Nat} (hb : Live w b) (hs : c.size = 3) {K : Value → Prop} :
    qG Try.prog (do loadVar 79 (← asAddr (.pointer (some ⟨b, 0, none⟩)))) (setBlk w b (.cells c T fr)).drew K = K (.agg c) := loadVar_of aggValT szValT (by rw [heap_drew]; exact heap_self hb) hs
theorem one_loop {w : World} {ca : Array Value} {t : List UInt8} (h8 : 8 ≤ t.length) (hl : t.length < 2 ^ 39) (ha : w.heap[a]? = some (.cells ca 79)) (hsz : ca.size = 3) (hb : w.heap[b]? = some (.cells #[.int .i64 1, .int .i64 0, .string (str [])] 79))
    (hab : ¬ b = a) (ha0 : w0.heap.size ≤ a) (hb0 : w0.heap.size ≤ b) (hk : Kp [] w0 w) (hR : ∀ w', Kp [] w0 w' → R (.tuple #[.agg #[.int .i64 1, .int .i64 (unbe8 (t.take 8)), .string (str [])], .string (str (t.drop 8)), .bool true]) w') :
    value_one_s5 R (.string (str t)) (.pointer (some ⟨a, 0, none⟩)) (.pointer (some ⟨b, 0, none⟩)) (.int .i64 8) w := by
  unfold value_one_s5 value_one_s4 value_one_L3
  refine loop_inv (fun m xs wi => ∃ i, i ≤ 8 ∧ m = 8 - i ∧ xs = [.string (str t), .pointer (some ⟨a, 0, none⟩), .pointer (some ⟨b, 0, none⟩), .int .i64 8, .int .u64 (beN (t.take i) : Nat), .int .i64 (i : Nat)] ∧ wi = w) ?_ (m := 8) ⟨0, by omega, rfl, rfl, rfl⟩
  rintro m N xs wi ⟨i, hi, rfl, rfl, rfl⟩ hN
  simp only [value_one_L3F, value_one_b2, bq_lss, bV_b]
  refine ⟨fun hlt => ?_, fun hge => ?_⟩
  · have hi : i < 8 := by simp at hlt; omega
    have hit : i < t.length := by omega
    have e3 : IntKind.i64.wrap ((i : Int) + 1) = ((i + 1 : Nat) : Int) := by rw [w64 (by omega) (by omega)]; simp
    have hbl := beN_lt (t.take i)
    rw [List.length_take, Nat.min_eq_left (by omega)] at hbl
    have hpow : 256 ^ i ≤ 256 ^ 7 := Nat.pow_le_pow_right (by omega) (by omega)
    have hc := t[i].toNat_lt
    rw [shl_of (by omega) (by decide)]
    have e1 : IntKind.u64.wrap (((beN (t.take i) : Nat) : Int) * 2 ^ (8 : Int).toNat) = ((beN (t.take i) * 2 ^ 8 : Nat) : Int) := by
      rw [show (((beN (t.take i) : Nat) : Int) * 2 ^ (8 : Int).toNat) = ((beN (t.take i) * 2 ^ 8 : Nat) : Int) by rw [Int.natCast_mul]; rfl]
      exact wrap_natu64 (by omega)
    rw [e1, ixS_lit hit]
    have e2 : IntKind.u64.wrap (t[i].toNat : Int) = (t[i].toNat : Int) := wrap_natu64 (by omega)
    simp only [cvI_i, e2]
    rw [oru64_of (by omega) (by omega), or_mul (by omega)]
    simp only [bq_add, e3]
    refine hN (8 - (i + 1)) _ _ (by omega) ⟨i + 1, by omega, rfl, ?_, rfl⟩
    have e4 : beN (t.take (i + 1)) = beN (t.take i) * 2 ^ 8 + t[i].toNat := by rw [List.take_succ_eq_append_getElem hit, beN_snoc]
    rw [e4]
  · have hie : i = 8 := by simp at hge; omega
    subst hie
    unfold value_one_s1
    have hbl := beN_lt (t.take 8)
    rw [List.length_take, Nat.min_eq_left (by omega)] at hbl
    rw [top2_u64 (p256_8 ▸ hbl)]
    have e1 : IntKind.i64.wrap (((beN (t.take 8) + 2 ^ 63) % 2 ^ 64 : Nat) : Int) = unbe8 (t.take 8) := by
      unfold unbe8
      exact wrap_top (p256_8 ▸ hbl)
    have lb := live_of hb
    rw [cvI_i, e1]
    simp [-getElem?_pos, -Array.all_eq_true, -Array.getElem?_eq_getElem, -List.length_flatten, List.getElem?_cons_zero, List.getElem?_cons_succ, hb]
    generalize unbe8 (t.take 8) = N8 at hR ⊢
    have q1 : (setBlk wi b (.cells #[.int .i64 1, .int .i64 N8, .string (str [])] 79)).heap[a]? = some (.cells ca 79) := by rw [heap_ne hab]; exact ha
    have q2 : (setBlk wi b (.cells #[.int .i64 1, .int .i64 N8, .string (str [])] 79)).heap[b]? = some (.cells #[.int .i64 1, .int .i64 N8, .string (str [])] 79) := heap_self lb
    have q3 := hk.setBlk (.inr hb0) (.cells #[.int .i64 1, .int .i64 N8, .string (str [])] 79)
    have q4 := one_s0 (v := ⟨1, N8, []⟩) h8 q1 hsz q2 ha0 q3 hR
    exact q4
theorem one_spec {w : World} (s : List UInt8) (hl : s.length < 2 ^ 39) {K : Value → World → Prop}
    (hY : ∀ v k w', oneV s = some (v, k) → Kp [] w w' → K (.tuple #[.agg #[.int .i64 v.k, .int .i64 v.n, .string (str v.s)], .string (str (s.drop k)), .bool true]) w')
    (hN : ∀ v : V3, ∀ y w', oneV s = none → Kp [] w w' → K (.tuple #[.agg #[.int .i64 v.k, .int .i64 v.n, .string (str v.s)], y, .bool false]) w') : callG Try.prog 85 #[.string (str s)] w K := by
  refine value_one_call ?_
  simp only [value_one, value_one_s11, newG_k]
  obtain ⟨w1, hw1⟩ := ex_w (w' := w.alloc (.cells (zc Try.prog 79) 79))
  have hk1 : Kp [] w w1 := by rw [hw1]; exact kp_alloc
  have ha1 : w1.heap[w.heap.size]? = some (.cells #[.int .i64 0, .int .i64 0, .string ⟨#[]⟩] 79) := by rw [hw1, zcV]; exact heap_new
  have hs1 : w1.heap.size = w.heap.size + 1 := by rw [hw1]; simp
  rw [← hw1]
  cases s with
  | nil =>
    have la := live_of ha1
    simp [-getElem?_pos, -Array.all_eq_true, -Array.getElem?_eq_getElem, -List.length_flatten, List.getElem?_cons_zero, List.getElem?_cons_succ, str_nil, zcVl, bld_done, ha1]
    rw [loadVar_of aggValT szValT (heap_self la) rfl]
    exact hN ⟨0, 0, []⟩ _ _ rfl (hk1.setBlk (.inr (Nat.le_refl _)) _)
  | cons c t =>
    have hne : (str (c :: t) = str []) = False := by simp
    have hx : (str (c :: t)).extract 1 (t.length + 1) = str t := by rw [str_extract]; simp
    simp only [List.length_cons] at hl
    have hc := c.toNat_lt
    have ekind : IntKind.i64.wrap (c.toNat : Int) = (c.toNat : Int) := w64 (by omega) (by omega)
    have e0 : ∀ K : Value → Prop, ixS (.string (str (c :: t))) (.int .i64 0) K = K (.int .u8 c.toNat) := fun K => ixS_lit (s := c :: t) (i := 0) (by simp)
    obtain ⟨w2, hw2⟩ := ex_w (w' := w1.alloc (.cells #[.int .i64 c.toNat, .int .i64 0, .string (str [])] 79))
    have hk2 : Kp [] w1 w2 := by rw [hw2]; exact kp_alloc
    have hb2 : w2.heap[w1.heap.size]? = some (.cells #[.int .i64 c.toNat, .int .i64 0, .string (str [])] 79) := by rw [hw2]; exact heap_new
    have ha2 := hk2.get ha1 (by simp)
    have hk02 := hk1.trans' hk2
    simp [-getElem?_pos, -Array.all_eq_true, -Array.getElem?_eq_getElem, -List.length_flatten, List.getElem?_cons_zero, List.getElem?_cons_succ, str_nil, e0, ekind, zcVl, bld_done, bld_if, offAt, putAt, hne, heap_new, hx]
    rw [← hw2]
    have l2 := live_of ha2
    simp [-getElem?_pos, -Array.all_eq_true, -Array.getElem?_eq_getElem, -List.length_flatten, List.getElem?_cons_zero, List.getElem?_cons_succ, ha2, lvV l2]
    have hab : ¬ w1.heap.size = w.heap.size := by omega
    have lb2 := live_of hb2
    have fail : ∀ S : World, Kp [] w S → oneV (c :: t) = none → ∀ v : V3, K (.tuple #[.agg #[.int .i64 v.k, .int .i64 v.n, .string (str v.s)], .string (str []), .bool false]) S := fun S hS h v => hN v _ S h hS
    have hkS : ∀ o, Kp [] w (setBlk w2 w.heap.size o) := fun o => hk02.setBlk (.inr (Nat.le_refl _)) _
    have hkB : ∀ o, Kp [] w (setBlk w2 w1.heap.size o) := fun o => hk02.setBlk (.inr (by omega)) _
    refine ⟨by omega, fun h0 => ?_, fun h0 => ⟨fun h1 => ?_, fun h1 => ⟨fun h2 => ?_, fun h2 => ⟨fun h3 => ?_, fun h3 => ?_⟩⟩⟩⟩
    · have hc0 : c = 0 := UInt8.toNat_inj.1 h0
      subst hc0
      exact hY ⟨0, 0, []⟩ 1 _ rfl (hkS _)
    · have hc0 : c = 1 := UInt8.toNat_inj.1 (show c.toNat = 1 by omega)
      subst hc0
      have ho : oneV (1 :: t) = if t.length < 8 then none else some (⟨1, unbe8 (t.take 8), []⟩, 9) := rfl
      unfold value_one_s10
      simp [-getElem?_pos, -Array.all_eq_true, -Array.getElem?_eq_getElem, -List.length_flatten, List.getElem?_cons_zero, List.getElem?_cons_succ, hb2, ha2, lvV l2]
      refine ⟨fun hlt => fail _ (hkS _) (by rw [ho, if_pos (by omega)]) ⟨1, 0, []⟩, fun hge => ?_⟩
      unfold value_one_s9 value_one_s8 value_one_s7
      simp [-getElem?_pos, -Array.all_eq_true, -Array.getElem?_eq_getElem, -List.length_flatten, List.getElem?_cons_zero, List.getElem?_cons_succ, hb2]
      exact one_loop (w0 := w) (by omega) (by omega) ha2 rfl hb2 hab (Nat.le_refl _) (by omega) hk02 fun w' hk' => hY ⟨1, unbe8 (t.take 8), []⟩ 9 w' (by rw [ho, if_neg (by omega)]) hk'
    · have hc0 : c = 2 := UInt8.toNat_inj.1 (show c.toNat = 2 by omega)
      subst hc0
      unfold value_one_s10
      simp [-getElem?_pos, -Array.all_eq_true, -Array.getElem?_eq_getElem, -List.length_flatten, List.getElem?_cons_zero, List.getElem?_cons_succ, hb2, ha2, lvV l2]
      cases t with
      | nil => simp; exact fail _ (hkS _) rfl ⟨2, 0, []⟩
      | cons d u =>
        have ho : oneV (2 :: d :: u) = if u.length < d.toNat ∨ 64 < d.toNat then none else some (⟨2, 0, u.take d.toNat⟩, 2 + d.toNat) := rfl
        have hd := d.toNat_lt
        simp only [List.length_cons] at hl
        have ed : IntKind.i64.wrap (d.toNat : Int) = (d.toNat : Int) := w64 (by omega) (by omega)
        have ed2 : IntKind.i64.wrap (1 + (d.toNat : Int)) = ((1 + d.toNat : Nat) : Int) := by rw [w64 (by omega) (by omega)]; simp
        have e0 : ∀ K : Value → Prop, ixS (.string (str (d :: u))) (.int .i64 0) K = K (.int .u8 d.toNat) := fun K => ixS_lit (s := d :: u) (i := 0) (by simp)
        refine ⟨fun hlt => by simp at hlt; omega, fun hge => ?_⟩
        unfold value_one_s9 value_one_s8 value_one_s7 value_one_s6
        simp [-getElem?_pos, -Array.all_eq_true, -Array.getElem?_eq_getElem, -List.length_flatten, List.getElem?_cons_zero, List.getElem?_cons_succ, hb2, e0, ed, ed2, ha2, lvV l2]
        refine ⟨fun hlt => fail _ (hkS _) (by rw [ho, if_pos (.inl (by omega))]) ⟨2, 0, []⟩, fun hge => ?_⟩
        have hx2 : (str (d :: u)).extract 1 (1 + (d.toNat : Int)).toNat = str (u.take d.toNat) := by
          rw [show (1 + (d.toNat : Int)).toNat = d.toNat + 1 by omega, str_extract, List.take_succ_cons]; rfl
        refine ⟨by omega, ?_⟩
        rw [hx2, show (1 + (d.toNat : Int)) = ((1 + d.toNat : Nat) : Int) by simp]
        refine ⟨by omega, ?_⟩
        have hok : V3.ok ⟨2, 0, u.take d.toNat⟩ = decide (d.toNat ≤ 64) := by
          have : (u.take d.toNat).length = d.toNat := by rw [List.length_take]; omega
          simp [V3.ok, this]
        refine one_s0 (w0 := w) (t := d :: u) (p := 1 + d.toNat) (v := ⟨2, 0, u.take d.toNat⟩) (by rw [List.length_cons]; omega) (by rw [heap_ne hab]; exact ha2) rfl (heap_self lb2) (Nat.le_refl _) (hkB _) fun w' hk' => ?_
        rw [hok]
        by_cases h64 : d.toNat ≤ 64
        · have := hY ⟨2, 0, u.take d.toNat⟩ (2 + d.toNat) w' (by rw [ho, if_neg (by omega)]) hk'
          rw [show 2 + d.toNat = (1 + d.toNat) + 1 by omega, List.drop_succ_cons] at this
          simpa [h64] using this
        · have := hN ⟨2, 0, u.take d.toNat⟩ (.string (str ((d :: u).drop (1 + d.toNat)))) w' (by rw [ho, if_pos (.inr (by omega))]) hk'
          simpa [h64] using this
    · have hc0 : c = 3 := UInt8.toNat_inj.1 (show c.toNat = 3 by omega)
      subst hc0
      unfold value_one_s10
      simp [-getElem?_pos, -Array.all_eq_true, -Array.getElem?_eq_getElem, -List.length_flatten, List.getElem?_cons_zero, List.getElem?_cons_succ, hb2, ha2, lvV l2]
      cases t with
      | nil => simp; exact fail _ (hkS _) rfl ⟨3, 0, []⟩
      | cons d u =>
        have ho : oneV (3 :: d :: u) = if 1 < d.toNat then none else some (⟨3, d.toNat, []⟩, 2) := rfl
        have hd := d.toNat_lt
        have ed : IntKind.i64.wrap (d.toNat : Int) = (d.toNat : Int) := w64 (by omega) (by omega)
        have e0 : ∀ K : Value → Prop, ixS (.string (str (d :: u))) (.int .i64 0) K = K (.int .u8 d.toNat) := fun K => ixS_lit (s := d :: u) (i := 0) (by simp)
        refine ⟨fun hlt => by simp at hlt; omega, fun hge => ?_⟩
        unfold value_one_s9 value_one_s8 value_one_s7 value_one_s6
        simp [-getElem?_pos, -Array.all_eq_true, -Array.getElem?_eq_getElem, -List.length_flatten, List.getElem?_cons_zero, List.getElem?_cons_succ, hb2, e0, ed, lb2]
        have hok : V3.ok ⟨3, d.toNat, []⟩ = decide (d.toNat ≤ 1) := by
          rw [Bool.eq_iff_iff]
          simp [V3.ok]
          clear ed e0
          omega
        refine one_s0 (w0 := w) (p := 1) (v := ⟨3, d.toNat, []⟩) (by simp) (by rw [heap_ne hab]; exact ha2) rfl (heap_self lb2) (Nat.le_refl _) (hkB _) fun w' hk' => ?_
        rw [hok]
        by_cases h1 : d.toNat ≤ 1
        · have := hY ⟨3, d.toNat, []⟩ 2 w' (by rw [ho, if_neg (by omega)]) hk'
          simpa [h1] using this
        · have := hN ⟨3, d.toNat, []⟩ (.string (str ((d :: u).drop 1))) w' (by rw [ho, if_pos (by omega)]) hk'
          simpa [h1] using this
    · have ho : oneV (c :: t) = none := by
        have n0 : ¬ c = 0 := fun h => by subst h; exact h0 rfl
        have n1 : ¬ c = 1 := fun h => by subst h; exact h1 rfl
        have n2 : ¬ c = 2 := fun h => by subst h; exact h2 rfl
        have n3 : ¬ c = 3 := fun h => by subst h; exact h3 rfl
        simp [oneV, n0, n1, n2, n3]
      exact fail _ (hkS _) ho ⟨c.toNat, 0, []⟩
end
end Go.Proofs

/- Layer 5: the document's values and rows taken from bytes; rows put. -/
set_option linter.unusedVariables false
set_option linter.unusedSimpArgs false
namespace Go.Proofs
open Go Go.Q
section
variable {w0 : World} {a b : Nat} {R : Value → World → Prop}
theorem pow_le6 {j : Nat} (h : j ≤ 6) : 256 ^ j ≤ 281474976710656 := by
  have : 256 ^ j ≤ 256 ^ 6 := Nat.pow_le_pow_right (by omega) h
  have e : (256 : Nat) ^ 6 = 281474976710656 := by decide
  omega
theorem refOne_loop {w : World} {ca : Array Value} {t : List UInt8} {x0 : Value} {c0 : UInt8} (hx0 : x0 = .string (str (c0 :: t))) (h8 : 8 ≤ t.length) (ha : w.heap[a]? = some (.cells ca 79)) (hsz : ca.size = 3)
    (hb : w.heap[b]? = some (.cells #[.int .i64 1, .int .i64 ((t.getD 0 0).toNat - 128), .string (str [])] 79))
    (hab : ¬ b = a) (ha0 : w0.heap.size ≤ a) (hb0 : w0.heap.size ≤ b) (hk : Kp [] w0 w) (hR : ∀ w', Kp [] w0 w' → R (.tuple #[.agg #[.int .i64 1, .int .i64 (unbe8 (t.take 8)), .string (str [])], .int .i64 9]) w') :
    ref05_one_s5 R x0 (.pointer (some ⟨a, 0, none⟩)) (.pointer (some ⟨b, 0, none⟩)) w := by
  unfold ref05_one_s5 ref05_one_L4
  have hb1 : (beN (t.take 1) : Int) - 128 * (256 ^ 0 : Nat) = (t.getD 0 0).toNat - 128 := by
    cases t with
    | nil => simp at h8
    | cons d u => simp [beN, List.getD]
  refine loop_inv (fun m xs wi => ∃ j, j ≤ 7 ∧ m = 7 - j ∧ xs = [x0, .pointer (some ⟨a, 0, none⟩), .pointer (some ⟨b, 0, none⟩), .int .i64 ((j + 2 : Nat) : Int)] ∧ wi.heap[a]? = some (.cells ca 79) ∧
      wi.heap[b]? = some (.cells #[.int .i64 1, .int .i64 ((beN (t.take (j + 1)) : Int) - 128 * (256 ^ j : Nat)), .string (str [])] 79) ∧ Kp [] w0 wi) ?_ (m := 7) ⟨0, by omega, rfl, rfl, ha, by rw [hb1]; exact hb, hk⟩
  rintro m N xs wi ⟨j, hj, rfl, rfl, hai, hbi, hki⟩ hN
  simp only [ref05_one_L4F, ref05_one_b3, bq_lss, bV_b]
  refine ⟨fun hlt => ?_, fun hge => ?_⟩
  · have hj : j < 7 := by simp at hlt; omega
    have hjt : j + 1 < t.length := by omega
    have e3 : IntKind.i64.wrap (((j + 2 : Nat) : Int) + 1) = ((j + 1 + 2 : Nat) : Int) := by rw [w64 (by omega) (by omega)]; omega
    have hbl := beN_lt (t.take (j + 1))
    rw [List.length_take, Nat.min_eq_left (by omega), Nat.pow_succ] at hbl
    have hp := pow_le6 (j := j) (by omega)
    have hpp : 0 < 256 ^ j := Nat.pow_pos (by omega)
    obtain ⟨q, hq⟩ : ∃ q, q = 256 ^ j := ⟨_, rfl⟩
    rw [← hq] at hbl hp hpp hbi
    obtain ⟨M, hM⟩ : ∃ M : Int, M = (beN (t.take (j + 1)) : Int) - 128 * (q : Nat) := ⟨_, rfl⟩
    rw [← hM] at hbi
    have hc := t[j + 1].toNat_lt
    have lb := live_of hbi
    have e4 : IntKind.i64.wrap (M * 2 ^ (8 : Int).toNat) = M * 256 := by
      have : (2 : Int) ^ (8 : Int).toNat = 256 := rfl
      rw [this, w64 (by omega) (by omega)]
    have e5 : IntKind.i64.wrap (t[j + 1].toNat : Int) = (t[j + 1].toNat : Int) := w64 (by omega) (by omega)
    have ei : ∀ K : Value → Prop, ixS x0 (.int .i64 ((j + 2 : Nat) : Int)) K = K (.int .u8 t[j + 1].toNat) := fun K => by
      rw [hx0, ixS_lit (s := c0 :: t) (i := j + 2) (by simp; omega)]; rfl
    simp only [fa_p, ld1_p, rd1_mk, heap_drew, hbi, Nat.zero_add]
    have hg : (#[Value.int .i64 1, .int .i64 M, .string (str [])] : Array Value)[1]? = some (.int .i64 M) := rfl
    simp only [hg]
    rw [shl_of (by omega) (by decide), e4, ei]
    simp only [cvI_i, e5]
    rw [or64s_of (by omega) (by omega) (by omega)]
    simp [-getElem?_pos, -Array.all_eq_true, -Array.getElem?_eq_getElem, -List.length_flatten, List.getElem?_cons_zero, List.getElem?_cons_succ, hbi, lb]
    have e6 : M * 256 + (t[j + 1].toNat : Int) = (beN (t.take (j + 1 + 1)) : Int) - 128 * (256 ^ (j + 1) : Nat) := by
      rw [List.take_succ_eq_append_getElem hjt, beN_snoc, Nat.pow_succ, ← hq]
      omega
    have e3' : IntKind.i64.wrap ((j : Int) + 2 + 1) = ((j + 1 + 2 : Nat) : Int) := by rw [w64 (by omega) (by omega)]; omega
    rw [e3', e6]
    refine hN (7 - (j + 1)) _ _ (by omega) ⟨j + 1, by omega, rfl, rfl, ?_, heap_self lb, (hki.setBlk (.inr hb0) _).drew⟩
    show (setBlk wi b _).heap[a]? = _
    rw [heap_ne hab]; exact hai
  · have hje : j = 7 := by simp at hge; omega
    subst hje
    unfold ref05_one_s2
    have la := live_of hai
    have e7 : (beN (t.take (7 + 1)) : Int) - 128 * (256 ^ 7 : Nat) = unbe8 (t.take 8) := by
      unfold unbe8
      have : (256 : Nat) ^ 7 = 72057594037927936 := by decide
      rw [this, show 7 + 1 = 8 from rfl]; omega
    rw [e7] at hbi
    exact one_ret (w0 := w0) (K := fun r w => R (.tuple #[r, .int .i64 9]) w) hai hsz hbi ha0 hki hR
theorem refOne_spec {w : World} (s : List UInt8) (hl : s.length < 2 ^ 39) {K : Value → World → Prop}
    (hY : ∀ v k w', oneV s = some (v, k) → Kp [] w w' → K (.tuple #[.agg #[.int .i64 v.k, .int .i64 v.n, .string (str v.s)], .int .i64 k]) w')
    (hN : ∀ v : V3, ∀ w', oneV s = none → Kp [] w w' → K (.tuple #[.agg #[.int .i64 v.k, .int .i64 v.n, .string (str v.s)], .int .i64 0]) w') : callG Try.prog 86 #[.string (str s)] w K := by
  refine ref05_one_call ?_
  simp only [ref05_one, ref05_one_s21, newG_k]
  obtain ⟨w1, hw1⟩ := ex_w (w' := w.alloc (.cells (zc Try.prog 79) 79))
  have hk1 : Kp [] w w1 := by rw [hw1]; exact kp_alloc
  have ha1 : w1.heap[w.heap.size]? = some (.cells #[.int .i64 0, .int .i64 0, .string ⟨#[]⟩] 79) := by rw [hw1, zcV]; exact heap_new
  have hs1 : w1.heap.size = w.heap.size + 1 := by rw [hw1]; simp
  rw [← hw1]
  have la := live_of ha1
  cases s with
  | nil =>
    simp [-getElem?_pos, -Array.all_eq_true, -Array.getElem?_eq_getElem, -List.length_flatten, List.getElem?_cons_zero, List.getElem?_cons_succ, str_nil, zcVl, bld_done, ha1, lvV la]
    exact hN ⟨0, 0, []⟩ _ rfl (hk1.setBlk (.inr (Nat.le_refl _)) _)
  | cons c t =>
    have hne : (str (c :: t) = str []) = False := by simp
    simp only [List.length_cons] at hl
    have hc := c.toNat_lt
    have ekind : IntKind.i64.wrap (c.toNat : Int) = (c.toNat : Int) := w64 (by omega) (by omega)
    have e0 : ∀ K : Value → Prop, ixS (.string (str (c :: t))) (.int .i64 0) K = K (.int .u8 c.toNat) := fun K => ixS_lit (s := c :: t) (i := 0) (by simp)
    obtain ⟨w2, hw2⟩ := ex_w (w' := w1.alloc (.cells #[.int .i64 c.toNat, .int .i64 0, .string (str [])] 79))
    have hk2 : Kp [] w1 w2 := by rw [hw2]; exact kp_alloc
    have hb2 : w2.heap[w1.heap.size]? = some (.cells #[.int .i64 c.toNat, .int .i64 0, .string (str [])] 79) := by rw [hw2]; exact heap_new
    have ha2 := hk2.get ha1 (by simp)
    have hk02 := hk1.trans' hk2
    have l2 := live_of ha2
    have lb2 := live_of hb2
    have hab : ¬ w1.heap.size = w.heap.size := by omega
    have hkS : ∀ o, Kp [] w (setBlk w2 w.heap.size o) := fun o => hk02.setBlk (.inr (Nat.le_refl _)) _
    have hkB : ∀ o, Kp [] w (setBlk w2 w1.heap.size o) := fun o => hk02.setBlk (.inr (by omega)) _
    have fail : ∀ S : World, Kp [] w S → oneV (c :: t) = none → ∀ v : V3, K (.tuple #[.agg #[.int .i64 v.k, .int .i64 v.n, .string (str v.s)], .int .i64 0]) S := fun S hS h v => hN v S h hS
    simp [-getElem?_pos, -Array.all_eq_true, -Array.getElem?_eq_getElem, -List.length_flatten, List.getElem?_cons_zero, List.getElem?_cons_succ, str_nil, e0, ekind, zcVl, bld_done, bld_if, offAt, putAt, hne, heap_new]
    rw [← hw2]
    unfold ref05_one_s20 ref05_one_s19 ref05_one_s18 ref05_one_s17 ref05_one_s16 ref05_one_s15 ref05_one_s14 ref05_one_s13 ref05_one_s12 ref05_one_s11 ref05_one_s1 ref05_one_s0
    simp [-getElem?_pos, -Array.all_eq_true, -Array.getElem?_eq_getElem, -List.length_flatten, List.getElem?_cons_zero, List.getElem?_cons_succ, hb2, ha2, lvV l2]
    refine ⟨fun h0 => ?_, fun h0 => ⟨fun h1 => ?_, fun h1 => ⟨fun h2 => ?_, fun h2 => ⟨fun h3 => ?_, fun h3 => ?_⟩⟩⟩⟩
    · have hc0 : c = 0 := UInt8.toNat_inj.1 (show c.toNat = 0 by omega)
      subst hc0
      exact hY ⟨0, 0, []⟩ 1 _ rfl (hkS _)
    · have hc0 : c = 1 := UInt8.toNat_inj.1 (show c.toNat = 1 by omega)
      subst hc0
      have ho : oneV (1 :: t) = if t.length < 8 then none else some (⟨1, unbe8 (t.take 8), []⟩, 9) := rfl
      unfold ref05_one_s6
      simp [-getElem?_pos, -Array.all_eq_true, -Array.getElem?_eq_getElem, -List.length_flatten, List.getElem?_cons_zero, List.getElem?_cons_succ, hb2, ha2, lvV l2]
      refine ⟨fun hlt => fail _ (hkS _) (by rw [ho, if_pos (by omega)]) ⟨1, 0, []⟩, fun hge => ?_⟩
      have h8 : 8 ≤ t.length := by omega
      have e1 : ∀ K : Value → Prop, ixS (.string (str (1 :: t))) (.int .i64 1) K = K (.int .u8 (t.getD 0 0).toNat) := fun K => by
        have := ixS_lit (s := 1 :: t) (kd := .i64) (i := 1) (by simp; omega) (K := K)
        rw [show ((1 : Nat) : Int) = 1 from rfl] at this
        rw [this]
        have : (1 :: t)[1]'(by simp; omega) = t.getD 0 0 := by
          cases t with
          | nil => simp at h8
          | cons d u => rfl
        rw [this]
      have hd := (t.getD 0 0).toNat_lt
      have e5 : IntKind.i64.wrap ((t.getD 0 0).toNat : Int) = ((t.getD 0 0).toNat : Int) := w64 (by omega) (by omega)
      have e6 : IntKind.i64.wrap (((t.getD 0 0).toNat : Int) - 128) = ((t.getD 0 0).toNat : Int) - 128 := w64 (by omega) (by omega)
      rw [e1]
      simp only [cvI_i, e5, bq_sub, e6]
      simp [-getElem?_pos, -Array.all_eq_true, -Array.getElem?_eq_getElem, -List.length_flatten, List.getElem?_cons_zero, List.getElem?_cons_succ, hb2]
      have q1 : (setBlk w2 w1.heap.size (.cells #[.int .i64 1, .int .i64 ((t.getD 0 0).toNat - 128), .string (str [])] 79)).heap[w.heap.size]? = some (.cells #[.int .i64 0, .int .i64 0, .string ⟨#[]⟩] 79) := by rw [heap_ne hab]; exact ha2
      refine refOne_loop (w0 := w) (c0 := 1) rfl h8 q1 rfl (heap_self lb2) hab (Nat.le_refl _) (by omega) (hkB _) fun w' hk' => ?_
      exact hY ⟨1, unbe8 (t.take 8), []⟩ 9 w' (by rw [ho, if_neg (by omega)]) hk'
    · have hc0 : c = 2 := UInt8.toNat_inj.1 (show c.toNat = 2 by omega)
      subst hc0
      unfold ref05_one_s8 ref05_one_s7
      simp [-getElem?_pos, -Array.all_eq_true, -Array.getElem?_eq_getElem, -List.length_flatten, List.getElem?_cons_zero, List.getElem?_cons_succ, hb2, ha2, lvV l2]
      cases t with
      | nil => simp; exact fail _ (hkS _) rfl ⟨2, 0, []⟩
      | cons d u =>
        have ho : oneV (2 :: d :: u) = if u.length < d.toNat ∨ 64 < d.toNat then none else some (⟨2, 0, u.take d.toNat⟩, 2 + d.toNat) := rfl
        have hd := d.toNat_lt
        simp only [List.length_cons] at hl
        have ed : IntKind.i64.wrap (d.toNat : Int) = (d.toNat : Int) := w64 (by omega) (by omega)
        have ed2 : IntKind.i64.wrap (2 + (d.toNat : Int)) = 2 + (d.toNat : Int) := by rw [w64 (by omega) (by omega)]
        have e1 : ∀ K : Value → Prop, ixS (.string (str (2 :: d :: u))) (.int .i64 1) K = K (.int .u8 d.toNat) := fun K => ixS_lit (s := 2 :: d :: u) (kd := .i64) (i := 1) (by simp)
        have el : IntKind.i64.wrap (((u.length + 1 + 1 : Nat) : Int) - 2) = (u.length : Int) := by rw [w64 (by omega) (by omega)]; omega
        have hx2 : (str (2 :: d :: u)).extract 2 (2 + (d.toNat : Int)).toNat = str (u.take d.toNat) := by
          rw [show (2 + (d.toNat : Int)).toNat = d.toNat + 1 + 1 by omega, str_extract, List.take_succ_cons, List.take_succ_cons]; rfl
        refine ⟨fun hlt => by simp at hlt; omega, fun hge => ?_⟩
        have el2 : IntKind.i64.wrap ((u.length : Int) + 1 + 1 - 2) = (u.length : Int) := by rw [w64 (by omega) (by omega)]; omega
        simp [-getElem?_pos, -Array.all_eq_true, -Array.getElem?_eq_getElem, -List.length_flatten, List.getElem?_cons_zero, List.getElem?_cons_succ, e1, ed, el, el2, ed2, hx2, hb2, ha2, lvV l2]
        refine ⟨fun hlt => fail _ (hkS _) (by rw [ho, if_pos (.inl (by omega))]) ⟨2, 0, []⟩, fun hge => ⟨fun h64 => fail _ (hkS _) (by rw [ho, if_pos (.inr (by omega))]) ⟨2, 0, []⟩, fun h64 => ?_⟩⟩
        have hlt : (u.take d.toNat).length = d.toNat := by rw [List.length_take]; omega
        have hmin : min d.toNat u.length = d.toNat := by omega
        have hval := hY ⟨2, 0, u.take d.toNat⟩ (2 + d.toNat) _ (by rw [ho, if_neg (by omega)]) ((hkB (.cells #[.int .i64 2, .int .i64 0, .string (str (u.take d.toNat))] 79)).drew.setBlk (.inr (Nat.le_refl _)) (.cells #[.int .i64 2, .int .i64 0, .string (str (u.take d.toNat))] 79))
        have hba : ¬ w.heap.size = w1.heap.size := by omega
        simp [-getElem?_pos, -Array.all_eq_true, -Array.getElem?_eq_getElem, -List.length_flatten, List.getElem?_cons_zero, List.getElem?_cons_succ, heap_self lb2, heap_ne hab, heap_ne hba, ha2, lvV, lvVd, l2, lb2, hmin, ed2]
        refine ⟨by omega, by omega, ?_⟩
        simpa using hval
    · have hc0 : c = 3 := UInt8.toNat_inj.1 (show c.toNat = 3 by omega)
      subst hc0
      unfold ref05_one_s10 ref05_one_s9
      simp [-getElem?_pos, -Array.all_eq_true, -Array.getElem?_eq_getElem, -List.length_flatten, List.getElem?_cons_zero, List.getElem?_cons_succ, hb2, ha2, lvV l2]
      cases t with
      | nil => simp; exact fail _ (hkS _) rfl ⟨3, 0, []⟩
      | cons d u =>
        have ho : oneV (3 :: d :: u) = if 1 < d.toNat then none else some (⟨3, d.toNat, []⟩, 2) := rfl
        have hd := d.toNat_lt
        have ed : IntKind.i64.wrap (d.toNat : Int) = (d.toNat : Int) := w64 (by omega) (by omega)
        have e1 : ∀ K : Value → Prop, ixS (.string (str (3 :: d :: u))) (.int .i64 1) K = K (.int .u8 d.toNat) := fun K => ixS_lit (s := 3 :: d :: u) (kd := .i64) (i := 1) (by simp)
        refine ⟨fun hlt => by simp at hlt; omega, fun hge => ?_⟩
        simp [-getElem?_pos, -Array.all_eq_true, -Array.getElem?_eq_getElem, -List.length_flatten, List.getElem?_cons_zero, List.getElem?_cons_succ, e1, ed, hb2, ha2, lvV l2]
        simp [-getElem?_pos, -Array.all_eq_true, -Array.getElem?_eq_getElem, -List.length_flatten, List.getElem?_cons_zero, List.getElem?_cons_succ, heap_self lb2, heap_ne hab, ha2, lvV, l2, lb2]
        refine ⟨fun h1 => fail _ (hkS _) (by rw [ho, if_pos (by omega)]) ⟨3, 0, []⟩, fun h1 => ?_⟩
        have hval := hY ⟨3, d.toNat, []⟩ 2 _ (by rw [ho, if_neg (by omega)]) ((hkB (.cells #[.int .i64 3, .int .i64 d.toNat, .string (str [])] 79)).setBlk (.inr (Nat.le_refl _)) (.cells #[.int .i64 3, .int .i64 d.toNat, .string (str [])] 79))
        simpa using hval
    · have ho : oneV (c :: t) = none := by
        have n0 : ¬ c = 0 := fun h => by subst h; exact h0 rfl
        have n1 : ¬ c = 1 := fun h => by subst h; exact h1 rfl
        have n2 : ¬ c = 2 := fun h => by subst h; exact h2 rfl
        have n3 : ¬ c = 3 := fun h => by subst h; exact h3 rfl
        simp [oneV, n0, n1, n2, n3]
      exact fail _ (hkS _) ho ⟨c.toNat, 0, []⟩
end
end Go.Proofs

/- Layer 5: rows. -/
set_option linter.unusedVariables false
set_option linter.unusedSimpArgs false
namespace Go.Proofs
open Go Go.Q
theorem valV_one (v : V3) : (valV v).all Q.one = true := rfl
theorem V3.wf_of_take {s : List UInt8} : True := trivial
theorem rd_val {w : World} {v : Value} {r : List V3} (h : Rd w v 3 (r.map valV)) {i : Nat} (hi : i < r.length) :
    ∃ p, (∀ kd K, ia 3 v (.int kd i) K = K p) ∧ ∀ K : Value → Prop, ldn 3 p w K = K (.agg #[.int .i64 r[i].k, .int .i64 r[i].n, .string (str r[i].s)]) := by
  obtain ⟨p, h1, h2, _⟩ := h.get (i := i) (by simpa using hi)
  refine ⟨p, h1, fun K => ?_⟩
  rw [h2 K]
  simp [valV]
theorem Put_spec {w : World} {rv : Value} {r : List V3} (hr : Rd w rv 3 (r.map valV)) (hw : ∀ v ∈ r, v.Wf) (hlen : r.length < 2 ^ 40) {K : Value → World → Prop}
    (hK : ∀ w', Kp [] w w' → K (.tuple #[.string (str (putRow r).1), .int .i64 (putRow r).2]) w') : callG Try.prog 46 #[rv] w K := by
  refine value_Put_call ?_
  simp only [value_Put, value_Put_s4, hr.lenL, List.length_map, bq_gtr, bV_b]
  refine ⟨fun h => ?_, fun h => ?_⟩
  · have hb : putRow r = ([], 1) := by unfold putRow; rw [if_neg (by simp at h; omega)]
    have := hK w (Kp.refl _ _)
    rw [hb] at this
    exact this
  have hl : r.length ≤ 255 := by simp at h; omega
  rw [newG_k, zcB]
  obtain ⟨w1, hw1⟩ := ex_w (w' := w.alloc (.cells #[.pointer none, .slice none 0 0] 102))
  have hb1 : Bd w w1 w.heap.size [] := by rw [hw1]; exact bd_new
  rw [← hw1]
  have e1 : IntKind.u8.wrap (r.length : Int) = ((bOf r.length).toNat : Int) := wrap_u8 _
  simp only [cvI_i, e1]
  refine bd_byte hb1 _ (by simp) fun w2 h2 => ?_
  rw [List.nil_append] at h2
  unfold value_Put_s3
  rw [(hr.keep h2.kp).lenL]
  unfold value_Put_L2
  simp only [List.length_map]
  refine loop_inv (fun m xs wi => ∃ i, i ≤ r.length ∧ m = r.length - i ∧ xs = [.pointer (some ⟨w.heap.size, 0, none⟩), rv, .int .i64 r.length, .int .i64 (i : Nat)] ∧ Bd w wi w.heap.size (bOf r.length :: rowB (r.take i)) ∧ (r.take i).all V3.ok = true) ?_ (m := r.length)
    ⟨0, by omega, rfl, rfl, h2, rfl⟩
  rintro m N xs wi ⟨i, hi, rfl, rfl, hb, hok⟩ hN
  simp only [value_Put_L2F, value_Put_b1, bq_lss, bV_b]
  have htl : (r.take i).length = i := by rw [List.length_take]; omega
  have hrl := rowB_len hok
  rw [htl] at hrl
  refine ⟨fun hlt => ?_, fun hge => ?_⟩
  · have hi : i < r.length := by simpa using hlt
    have hiw : IntKind.i64.wrap ((i : Int) + 1) = ((i + 1 : Nat) : Int) := by rw [w64 (by omega) (by omega)]; simp
    obtain ⟨p, hp1, hp2⟩ := rd_val (hr.keep hb.kp) hi
    rw [hp1, hp2, newG_k]
    obtain ⟨w3, hw3⟩ := ex_w (w' := wi.alloc (.cells #[.int .i64 r[i].k, .int .i64 r[i].n, .string (str r[i].s)] 79))
    have hk3 : Kp [] wi w3 := by rw [hw3]; exact kp_alloc
    have hx3 : w3.heap[wi.heap.size]? = some (.cells #[.int .i64 r[i].k, .int .i64 r[i].n, .string (str r[i].s)] 79) := by rw [hw3]; exact heap_new
    simp [-getElem?_pos, -Array.all_eq_true, -Array.getElem?_eq_getElem, -List.length_flatten, List.getElem?_cons_zero, List.getElem?_cons_succ, heap_new, zcVl]
    rw [← hw3]
    refine Check_spec r[i] fun w4 hk4 => ?_
    have hmem : r[i] ∈ r := List.getElem_mem hi
    have hx4 := hk4.get hx3 (by simp)
    have hb4 := (hb.keep hk3).keep hk4
    cases hv : r[i].ok with
    | false =>
      simp [-getElem?_pos, -Array.all_eq_true, -Array.getElem?_eq_getElem, -List.length_flatten, List.getElem?_cons_zero, List.getElem?_cons_succ, hv]
      have := hK w4 hb4.kp
      rw [putRow_bad hmem hv] at this
      exact this
    | true =>
      simp [-getElem?_pos, -Array.all_eq_true, -Array.getElem?_eq_getElem, -List.length_flatten, List.getElem?_cons_zero, List.getElem?_cons_succ, hv, hx4]
      refine bytes_spec r[i] (hw _ hmem) fun w5 hk5 => ?_
      have hbl := V3.bytes_ok hv
      refine bd_string (hb4.keep hk5) _ (by simp only [List.length_cons]; omega) fun w6 h6 => ?_
      simp only [bq_add, hiw]
      have htk : r.take i ++ [r[i]] = r.take (i + 1) := (List.take_succ_eq_append_getElem hi).symm
      refine hN (r.length - (i + 1)) _ _ (by omega) ⟨i + 1, by omega, rfl, rfl, ?_, ?_⟩
      · rw [← htk, rowB_snoc]
        simpa using h6
      · rw [← htk, List.all_append, hok]
        simp [hv]
  · have hie : i = r.length := by simp at hge; omega
    subst hie
    rw [List.take_length] at hb hok hrl
    unfold value_Put_s0
    refine bd_text hb (by simp only [List.length_cons]; omega) fun w7 hk7 => ?_
    have := hK w7 hk7
    have hp : putRow r = (bOf r.length :: rowB r, 0) := by unfold putRow; rw [if_pos ⟨hl, hok⟩]
    rw [hp] at this
    exact this
theorem refPut_spec {w : World} {rv : Value} {r : List V3} (hr : Rd w rv 3 (r.map valV)) (hw : ∀ v ∈ r, v.Wf) (hlen : r.length < 2 ^ 40) {K : Value → World → Prop}
    (hK : ∀ w', Kp [] w w' → K (.tuple #[.string (str (putRow r).1), .int .i64 (putRow r).2]) w') : callG Try.prog 51 #[rv] w K := by
  refine ref05_Put_call ?_
  simp only [ref05_Put, ref05_Put_s4, hr.lenL, List.length_map, bq_gtr, bV_b]
  refine ⟨fun h => ?_, fun h => ?_⟩
  · have hb : putRow r = ([], 1) := by unfold putRow; rw [if_neg (by simp at h; omega)]
    have := hK w (Kp.refl _ _)
    rw [hb] at this
    exact this
  have hl : r.length ≤ 255 := by simp at h; omega
  have e1 : IntKind.u8.wrap (r.length : Int) = ((bOf r.length).toNat : Int) := wrap_u8 _
  simp only [cvI_i, e1]
  refine bsl_byte _ fun v2 w2 h2 => ?_
  unfold ref05_Put_s3 ref05_Put_L2
  refine loop_inv (fun m xs wi => ∃ i vi, i ≤ r.length ∧ m = r.length - i ∧ xs = [rv, vi, .int .i64 (i : Nat)] ∧ Fr w wi vi 1 ((bOf r.length :: rowB (r.take i)).map byteV) ∧ (r.take i).all V3.ok = true) ?_ (m := r.length)
    ⟨0, v2, by omega, rfl, rfl, h2, rfl⟩
  rintro m N xs wi ⟨i, vi, hi, rfl, rfl, hb, hok⟩ hN
  have hri := hr.keep hb.kp
  simp only [ref05_Put_L2F, ref05_Put_b1, hri.lenL, List.length_map, bq_lss, bV_b]
  have htl : (r.take i).length = i := by rw [List.length_take]; omega
  have hrl := rowB_len hok
  rw [htl] at hrl
  refine ⟨fun hlt => ?_, fun hge => ?_⟩
  · have hi : i < r.length := by simpa using hlt
    have hiw : IntKind.i64.wrap ((i : Int) + 1) = ((i + 1 : Nat) : Int) := by rw [w64 (by omega) (by omega)]; simp
    have hmem : r[i] ∈ r := List.getElem_mem hi
    obtain ⟨p, hp1, hp2⟩ := rd_val hri hi
    rw [hp1, hp2]
    refine May_spec r[i] fun w4 hk4 => ?_
    have hb4 := hb.keep hk4
    cases hv : r[i].ok with
    | false =>
      simp [-getElem?_pos, -Array.all_eq_true, -Array.getElem?_eq_getElem, -List.length_flatten, List.getElem?_cons_zero, List.getElem?_cons_succ, hv]
      have := hK w4 hb4.kp
      rw [putRow_bad hmem hv] at this
      exact this
    | true =>
      obtain ⟨p, hp1, hp2⟩ := rd_val (hr.keep hb4.kp) hi
      simp only [un_not, bV_b]
      refine ⟨fun h => by simp at h, fun _ => ?_⟩
      rw [hp1, hp2]
      refine refBytes_spec r[i] (hw _ hmem) fun w5 hk5 => ?_
      have hbl := V3.bytes_ok hv
      refine bytes_app (by kernel_rfl) (hb4.keep hk5) _ (by simp only [List.length_cons]; omega) fun v6 w6 h6 => ?_
      simp only [bq_add, hiw]
      have htk : r.take i ++ [r[i]] = r.take (i + 1) := (List.take_succ_eq_append_getElem hi).symm
      refine hN (r.length - (i + 1)) _ _ (by omega) ⟨i + 1, v6, by omega, rfl, rfl, ?_, ?_⟩
      · rw [← htk, rowB_snoc]
        simpa using h6
      · rw [← htk, List.all_append, hok]
        simp [hv]
  · have hie : i = r.length := by simp at hge; omega
    subst hie
    rw [List.take_length] at hb hok hrl
    unfold ref05_Put_s0
    rw [hb.text]
    have := hK wi hb.kp
    have hp : putRow r = (bOf r.length :: rowB r, 0) := by unfold putRow; rw [if_pos ⟨hl, hok⟩]
    rw [hp] at this
    exact this
theorem takeRow_cons (c : UInt8) (t : List UInt8) : takeRow (c :: t) = match takeL c.toNat t with | some (l, []) => (l, 0) | _ => ([], 50) := rfl
theorem takeL_none {n : Nat} {r : List UInt8} (h : oneV r = none) : takeL (n + 1) r = none := by simp [takeL, h]
theorem takeL_some' {n k : Nat} {v : V3} {r : List UInt8} (h : oneV r = some (v, k)) : takeL (n + 1) r = (takeL n (r.drop k)).map fun p => (v :: p.1, p.2) := by
  simp only [takeL, h]
  cases takeL n (r.drop k) with
  | none => rfl
  | some p => rfl
theorem Take_spec {w : World} (s : List UInt8) (hl : s.length < 2 ^ 39) {K : Value → World → Prop}
    (hK : ∀ v w', Fr w w' v 3 ((takeRow s).1.map valV) → K (.tuple #[v, .int .i64 (takeRow s).2]) w') : callG Try.prog 55 #[.string (str s)] w K := by
  refine value_Take_call ?_
  simp only [value_Take, value_Take_s4, str_nil, bq_seql, str_eq, bV_b]
  cases s with
  | nil =>
    refine ⟨fun _ => ?_, fun h => by simp at h⟩
    exact hK _ w (fr_nil (Kp.refl _ _))
  | cons c t =>
    refine ⟨fun h => by simp at h, fun _ => ?_⟩
    simp only [List.length_cons] at hl
    have hc := c.toNat_lt
    have hx : (str (c :: t)).extract 1 (t.length + 1) = str t := by rw [str_extract]; simp
    simp only [slS_p, bnd_some, bnd_none, str_size, List.length_cons, Int.toNat_one, hx]
    refine ⟨by omega, ?_⟩
    unfold value_Take_s3
    have e0 : ∀ K : Value → Prop, ixS (.string (str (c :: t))) (.int .i64 0) K = K (.int .u8 c.toNat) := fun K => ixS_lit (s := c :: t) (i := 0) (by simp)
    rw [e0]
    have bad : ∀ w', Kp [] w w' → (∀ l, takeL c.toNat t ≠ some (l, [])) → K (.tuple #[.slice none 0 0, .int .i64 50]) w' := by
      intro w' hk hno
      have hb : takeRow (c :: t) = ([], 50) := by
        rw [takeRow_cons]
        split
        · rename_i l h; exact absurd h (hno l)
        · rfl
      have := hK (.slice none 0 0) w' (by rw [hb]; exact fr_nil hk)
      rw [hb] at this
      exact this
    unfold value_Take_L2
    refine loop_inv (fun m xs wi => ∃ (i : Nat) (l : List V3) (r : List UInt8) (vo : Value), i ≤ c.toNat ∧ m = c.toNat - i ∧ xs = [vo, .string (str r), .int .u8 c.toNat, .int .u8 (i : Nat)] ∧ Fr w wi vo 3 (l.map valV) ∧ l.length = i ∧ r.length ≤ t.length ∧
        takeL c.toNat t = (takeL (c.toNat - i) r).map fun p => (l ++ p.1, p.2)) ?_ (m := c.toNat) ⟨0, [], t, .slice none 0 0, by omega, rfl, rfl, fr_nil (Kp.refl _ _), rfl, by omega, by simp [Option.map_id']⟩
    rintro m N xs wi ⟨i, l, r, vo, hi, rfl, rfl, hf, hli, hrt, htk⟩ hN
    simp only [value_Take_L2F, value_Take_b1, bq_lss, bV_b]
    refine ⟨fun hlt => ?_, fun hge => ?_⟩
    · have hi : i < c.toNat := by simpa using hlt
      have hn : c.toNat - i = (c.toNat - (i + 1)) + 1 := by omega
      rw [hn] at htk
      refine one_spec r (by omega) (fun v k w1 ho hk1 => ?_) (fun v y w1 ho hk1 => ?_)
      · rw [ex30, ex31, ex32]
        have hk := oneV_len ho
        have hf1 := hf.keep hk1
        simp [-getElem?_pos, -Array.all_eq_true, -Array.getElem?_eq_getElem, -List.length_flatten, List.getElem?_cons_zero, List.getElem?_cons_succ, zcVl, heap_new]
        refine bsl_rowN (n := 3) (cs := valV v) (by omega) rfl rfl fun v3 w3 h3 => ?_
        have hf3 := (hf1.keep kp_alloc).keep h3.kp
        refine fr_push hf3 h3.rd (by omega) rfl (valV_one v) (by simp [hli]; omega) (by simp [hli]; omega) (wx := w3) fun v4 w4 h4 => ?_
        have e4 : IntKind.u8.wrap ((i : Int) + 1) = ((i + 1 : Nat) : Int) := by
          rw [show ((i : Int) + 1) = ((i + 1 : Nat) : Int) by simp]; exact wrap_natu8 (by omega)
        simp only [bq_add, e4]
        refine hN (c.toNat - (i + 1)) _ _ (by omega) ⟨i + 1, l ++ [v], r.drop k, v4, by omega, rfl, rfl, by rw [List.map_append]; exact h4, by simp [hli], by rw [List.length_drop]; omega, ?_⟩
        rw [htk, takeL_some' ho, Option.map_map]
        congr 1
        funext p
        simp
      · rw [ex30, ex31, ex32]
        simp [-getElem?_pos, -Array.all_eq_true, -Array.getElem?_eq_getElem, -List.length_flatten, List.getElem?_cons_zero, List.getElem?_cons_succ, zcVl, heap_new]
        refine bad _ ((hf.kp.trans' hk1).trans' kp_alloc) fun l' h => ?_
        rw [htk, takeL_none ho] at h
        cases h
    · have hie : i = c.toNat := by simp at hge; omega
      subst hie
      rw [Nat.sub_self] at htk
      have h0 : takeL 0 r = some ([], r) := rfl
      rw [h0] at htk
      simp only [Option.map_some, List.append_nil] at htk
      unfold value_Take_s0
      simp only [str_nil, bq_sneq, str_eq, bV_b]
      refine ⟨fun hr => ?_, fun hr => ?_⟩
      · refine bad wi hf.kp fun l' h => ?_
        rw [htk] at h
        injection h with h; injection h with _ h
        simp [h] at hr
      · have hr0 : r = [] := by simpa using hr
        subst hr0
        have hb : takeRow (c :: t) = (l, 0) := by rw [takeRow_cons, htk]
        have := hK vo wi (by rw [hb]; exact hf)
        rw [hb] at this
        exact this
theorem refTake_spec {w : World} (s : List UInt8) (hl : s.length < 2 ^ 39) {K : Value → World → Prop}
    (hK : ∀ v w', Fr w w' v 3 ((takeRow s).1.map valV) → K (.tuple #[v, .int .i64 (takeRow s).2]) w') : callG Try.prog 57 #[.string (str s)] w K := by
  refine ref05_Take_call ?_
  simp only [ref05_Take, ref05_Take_s4, str_nil, bq_seql, str_eq, bV_b]
  cases s with
  | nil =>
    refine ⟨fun _ => ?_, fun h => by simp at h⟩
    exact hK _ w (fr_nil (Kp.refl _ _))
  | cons c t =>
    refine ⟨fun h => by simp at h, fun _ => ?_⟩
    simp only [List.length_cons] at hl
    have hc := c.toNat_lt
    unfold ref05_Take_s3
    have e0 : ∀ K : Value → Prop, ixS (.string (str (c :: t))) (.int .i64 0) K = K (.int .u8 c.toNat) := fun K => ixS_lit (s := c :: t) (i := 0) (by simp)
    have bad : ∀ w', Kp [] w w' → (∀ l, takeL c.toNat t ≠ some (l, [])) → K (.tuple #[.slice none 0 0, .int .i64 50]) w' := by
      intro w' hk hno
      have hb : takeRow (c :: t) = ([], 50) := by
        rw [takeRow_cons]
        split
        · rename_i l h; exact absurd h (hno l)
        · rfl
      have := hK (.slice none 0 0) w' (by rw [hb]; exact fr_nil hk)
      rw [hb] at this
      exact this
    unfold ref05_Take_L2
    refine loop_inv (fun m xs wi => ∃ (i : Nat) (l : List V3) (q : Nat) (vo : Value), i ≤ c.toNat ∧ m = c.toNat - i ∧ xs = [.string (str (c :: t)), vo, .int .i64 ((q + 1 : Nat) : Int), .int .i64 (i : Nat)] ∧ Fr w wi vo 3 (l.map valV) ∧ l.length = i ∧ q ≤ t.length ∧
        takeL c.toNat t = (takeL (c.toNat - i) (t.drop q)).map fun p => (l ++ p.1, p.2)) ?_ (m := c.toNat) ⟨0, [], 0, .slice none 0 0, by omega, rfl, rfl, fr_nil (Kp.refl _ _), rfl, by omega, by simp [Option.map_id']⟩
    rintro m N xs wi ⟨i, l, q, vo, hi, rfl, rfl, hf, hli, hqt, htk⟩ hN
    have ekind : IntKind.i64.wrap (c.toNat : Int) = (c.toNat : Int) := w64 (by omega) (by omega)
    simp only [ref05_Take_L2F, ref05_Take_b1, e0, cvI_i, ekind, bq_lss, bV_b]
    refine ⟨fun hlt => ?_, fun hge => ?_⟩
    · have hi : i < c.toNat := by simpa using hlt
      have hn : c.toNat - i = (c.toNat - (i + 1)) + 1 := by omega
      rw [hn] at htk
      have hx : (str (c :: t)).extract (q + 1) (t.length + 1) = str (t.drop q) := by
        rw [str_extract, List.take_of_length_le (by simp)]; rfl
      simp only [slS_p, bnd_some, bnd_none, str_size, List.length_cons, Int.toNat_natCast, hx]
      refine ⟨by omega, ?_⟩
      refine refOne_spec (t.drop q) (by rw [List.length_drop]; omega) (fun v k w1 ho hk1 => ?_) (fun v w1 ho hk1 => ?_)
      · rw [ex0, ex1]
        have hk := oneV_len ho
        have hk0 := (oneV_some ho).2.2.2.2.1
        rw [List.length_drop] at hk
        have hf1 := hf.keep hk1
        have hkne : ¬ (k : Int) = 0 := by omega
        simp [-getElem?_pos, -Array.all_eq_true, -Array.getElem?_eq_getElem, -List.length_flatten, List.getElem?_cons_zero, List.getElem?_cons_succ, zcVl, hkne, heap_new]
        refine ⟨fun h => by omega, fun _ => ?_⟩
        refine bsl_rowN (n := 3) (cs := valV v) (by omega) rfl rfl fun v3 w3 h3 => ?_
        have hf3 := (hf1.keep kp_alloc).keep h3.kp
        refine fr_push hf3 h3.rd (by omega) rfl (valV_one v) (by simp [hli]; omega) (by simp [hli]; omega) (wx := w3) fun v4 w4 h4 => ?_
        have e4 : IntKind.i64.wrap ((i : Int) + 1) = ((i + 1 : Nat) : Int) := by rw [w64 (by omega) (by omega)]; simp
        have e5 : IntKind.i64.wrap ((q : Int) + 1 + (k : Int)) = ((q + k + 1 : Nat) : Int) := by rw [w64 (by omega) (by omega)]; omega
        simp only [bq_add, e4, e5]
        refine hN (c.toNat - (i + 1)) _ _ (by omega) ⟨i + 1, l ++ [v], q + k, v4, by omega, rfl, rfl, by rw [List.map_append]; exact h4, by simp [hli], by omega, ?_⟩
        rw [htk, takeL_some' ho, Option.map_map, List.drop_drop]
        congr 1
        funext p
        simp
      · rw [ex0, ex1]
        simp [-getElem?_pos, -Array.all_eq_true, -Array.getElem?_eq_getElem, -List.length_flatten, List.getElem?_cons_zero, List.getElem?_cons_succ, zcVl, heap_new]
        refine bad _ ((hf.kp.trans' hk1).trans' kp_alloc) fun l' h => ?_
        rw [htk, takeL_none ho] at h
        cases h
    · have hie : i = c.toNat := by simp at hge; omega
      subst hie
      rw [Nat.sub_self] at htk
      have h0 : takeL 0 (t.drop q) = some ([], t.drop q) := rfl
      rw [h0] at htk
      simp only [Option.map_some, List.append_nil] at htk
      unfold ref05_Take_s0
      simp only [lenS_s, str_size, List.length_cons, bq_neq, bV_b]
      refine ⟨fun hr => ?_, fun hr => ?_⟩
      · refine bad wi hf.kp fun l' h => ?_
        rw [htk] at h
        injection h with h; injection h with _ h
        have := congrArg List.length h
        simp at this hr
        omega
      · have hq : q = t.length := by simp at hr; omega
        have hr0 : t.drop q = [] := by rw [hq]; simp
        rw [hr0] at htk
        have hb : takeRow (c :: t) = (l, 0) := by rw [takeRow_cons, htk]
        have := hK vo wi (by rw [hb]; exact hf)
        rw [hb] at this
        exact this
theorem Same_spec {w : World} {va vb : Value} {a b : List V3} (ha : Rd w va 3 (a.map valV)) (hb : Rd w vb 3 (b.map valV)) (hl : a.length < 2 ^ 62) {K : Value → World → Prop} (hK : ∀ w', Kp [] w w' → K (.bool (decide (a = b))) w') :
    callG Try.prog 24 #[va, vb] w K := by
  refine ref05_Same_call ?_
  simp only [ref05_Same, ref05_Same_s4, ha.lenL, hb.lenL, bq_neq, bV_b, List.length_map]
  refine ⟨fun h => ?_, fun h => ?_⟩
  · have hne : a ≠ b := by intro he; subst he; simp at h
    have := hK w (Kp.refl _ _)
    simpa [hne] using this
  have hlen : a.length = b.length := by simp at h; omega
  unfold ref05_Same_s3 ref05_Same_L2
  refine loop_inv (fun m xs w' => ∃ i, i ≤ a.length ∧ m = a.length - i ∧ xs = [va, vb, .int .i64 (i : Nat)] ∧ Kp [] w w' ∧ a.take i = b.take i) ?_ (m := a.length) ⟨0, by omega, rfl, rfl, Kp.refl _ _, rfl⟩
  rintro m N xs w' ⟨i, hi, rfl, rfl, hk, he⟩ hN
  have ha' := ha.keep hk
  have hb' := hb.keep hk
  simp only [ref05_Same_L2F, ref05_Same_b1, ha'.lenL, List.length_map, bq_lss, bV_b]
  refine ⟨fun h => ?_, fun h => ?_⟩
  · have hi : i < a.length := by simpa using h
    have hiw : IntKind.i64.wrap ((i : Int) + 1) = ((i + 1 : Nat) : Int) := by rw [w64 (by omega) (by omega)]; simp
    obtain ⟨p, hp1, hp2⟩ := rd_val (ha.keep (hk.trans' kp_drew)) hi
    obtain ⟨q, hq1, hq2⟩ := rd_val (hb.keep (hk.trans' kp_drew)) (i := i) (by omega)
    have hp3 : ∀ K : Value → Prop, ldn 3 p w' K = K (.agg #[.int .i64 a[i].k, .int .i64 a[i].n, .string (str a[i].s)]) := hp2
    have hq3 : ∀ K : Value → Prop, ldn 3 q w' K = K (.agg #[.int .i64 b[i].k, .int .i64 b[i].n, .string (str b[i].s)]) := hq2
    simp [-getElem?_pos, -Array.all_eq_true, -Array.getElem?_eq_getElem, -List.length_flatten, List.getElem?_cons_zero, List.getElem?_cons_succ, hp1, hp2, hp3, hq1, hq2, hq3, eqVal, hiw]
    by_cases hab : a[i] = b[i]
    · have hg := hN (a.length - (i + 1)) _ w'.drew (by omega) ⟨i + 1, by omega, rfl, rfl, hk.drew, by
        rw [List.take_succ_eq_append_getElem hi, List.take_succ_eq_append_getElem (by omega), he, hab]⟩
      simpa [hab] using hg
    · have hne : a ≠ b := by intro h; subst h; exact hab rfl
      have hr := hK w'.drew hk.drew
      have hcond : ¬ (a[i].k = b[i].k ∧ a[i].n = b[i].n ∧ a[i].s = b[i].s) := by
        rintro ⟨h1, h2, h3⟩
        apply hab
        cases ha : a[i]; cases hb : b[i]
        rw [ha, hb] at h1 h2 h3
        simp only at h1 h2 h3
        rw [h1, h2, h3]
      simp only [hne, decide_false] at hr
      refine ⟨fun _ => hr, fun h1 h2 h3 => absurd ⟨h1, h2, h3⟩ hcond⟩
  · have hie : i = a.length := by simp at h; omega
    subst hie
    have hab : a = b := by
      rw [List.take_length] at he
      rw [hlen, List.take_length] at he
      exact he
    have := hK w' hk
    simpa [ref05_Same_s0, hab] using this
end Go.Proofs

set_option linter.unusedVariables false
set_option linter.unusedSimpArgs false
namespace Go.Proofs
open Go Go.Q
set_option maxRecDepth 100000
/-! quayside/entry.name -/
def entry_name_s0 (R : Value → World → Prop) (x0 : Value) (w : World) : Prop :=
  lenS x0 fun t4 =>
  qG Try.prog (bq .geq 3 (.tmp 4) (.const (.int .i64 1)) t4 (.int .i64 1)) w fun t5 =>
  bV t5
  (lenS x0 fun t8 =>
  qG Try.prog (bq .leq 3 (.tmp 8) (.const (.int .i64 64)) t8 (.int .i64 64)) w fun t9 =>
  R t9 w)
  (R (.bool false) w)

theorem entry_name_s0_eq (R : Value → World → Prop) : ∀ e w, lift Try.prog 11 (bodyOf Try.f54) (finK Try.prog Try.f54.results.toList R) e w = entry_name_s0 R (e 0) w := fun e w => by kernel_rfl

def entry_name (R : Value → World → Prop) (x0 : Value) (w : World) : Prop := entry_name_s0 R x0 w
theorem entry_name_call {R : Value → World → Prop} {x0 : Value} {w : World} (h : entry_name R x0 w) : callG Try.prog 54 #[x0] w R :=
  calls_lift_eq Try.mixed Try.func54 (args := [x0]) rfl rfl rfl rfl ((entry_name_s0_eq R) (envOf [x0]) w) (by kernel_rfl) h
/-! quayside/quaysideref06.Name -/
def ref06_Name_s0 (R : Value → World → Prop) (x0 : Value) (w : World) : Prop :=
  lenS x0 fun t4 =>
  qG Try.prog (bq .geq 3 (.tmp 4) (.const (.int .i64 1)) t4 (.int .i64 1)) w fun t5 =>
  bV t5
  (lenS x0 fun t8 =>
  qG Try.prog (bq .leq 3 (.tmp 8) (.const (.int .i64 64)) t8 (.int .i64 64)) w fun t9 =>
  R t9 w)
  (R (.bool false) w)

theorem ref06_Name_s0_eq (R : Value → World → Prop) : ∀ e w, lift Try.prog 11 (bodyOf Try.f69) (finK Try.prog Try.f69.results.toList R) e w = ref06_Name_s0 R (e 0) w := fun e w => by kernel_rfl

def ref06_Name (R : Value → World → Prop) (x0 : Value) (w : World) : Prop := ref06_Name_s0 R x0 w
theorem ref06_Name_call {R : Value → World → Prop} {x0 : Value} {w : World} (h : ref06_Name R x0 w) : callG Try.prog 69 #[x0] w R :=
  calls_lift_eq Try.mixed Try.func69 (args := [x0]) rfl rfl rfl rfl ((ref06_Name_s0_eq R) (envOf [x0]) w) (by kernel_rfl) h
/-! quayside/entry.Check -/
def entry_Check_s0 (R : Value → World → Prop) (x1 x3 x4 : Value) (w : World) : Prop :=
  fa 0 x1 fun t113 =>
  ld1 t113 w fun t114 =>
  fa 0 x3 fun t115 =>
  st1 t115 t114 w fun w =>
  qG Try.prog (Op.unary .not x4) w fun t117 =>
  bV t117
  (R (.int .i64 1) w)
  (ldn 7 x3 w fun t119 =>
  ldn 7 x1 w fun t120 =>
  qG Try.prog (bq .neq 23 (.tmp 119) (.tmp 120) t119 t120) w fun t121 =>
  bV t121
  (R (.int .i64 1) w)
  (R (.int .i64 0) w))

theorem entry_Check_s0_eq (R : Value → World → Prop) : ∀ e w, lift Try.prog 123 (sub (bodyOf Try.f17) [1, 1, 1, 1]) (finK Try.prog Try.f17.results.toList R) e w = entry_Check_s0 R (e 1) (e 3) (e 4) w := fun e w => by kernel_rfl

def entry_Check_s1 (R : Value → World → Prop) (x1 x3 x4 : Value) (w : World) : Prop :=
  fa 1 x1 fun t17 =>
  ld1 t17 w fun t18 =>
  fa 2 x1 fun t19 =>
  ld1 t19 w fun t20 =>
  fa 4 x1 fun t21 =>
  ld1 t21 w fun t22 =>
  bld [(0, 1), (1, 1), (2, 1), (3, 1), (4, 1), (5, 1), (6, 1)] (zc Try.prog 23) #[(1, t18), (2, t20), (4, t22)] fun t23 =>
  stn 7 x3 t23 w fun w =>
  bV x4
  (fa 4 x1 fun t26 =>
  ld1 t26 w fun t27 =>
  qG Try.prog (bq .geq 3 (.tmp 27) (.const (.int .i64 1)) t27 (.int .i64 1)) w fun t28 =>
  entry_Check_s0 R x1 x3 t28 w)
  (entry_Check_s0 R x1 x3 (.bool false) w)

theorem entry_Check_s1_eq (R : Value → World → Prop) : ∀ e w, lift Try.prog 123 (sub (bodyOf Try.f17) [1, 1, 1, 0, 1, 0, 1, 0]) (blockK 0 (seqK (fun e w => entry_Check_s0 R (e 1) (e 3) (e 4) w) (finK Try.prog Try.f17.results.toList R))) e w = entry_Check_s1 R (e 1) (e 3) (e 4) w := fun e w => by kernel_rfl

def entry_Check_s2 (R : Value → World → Prop) (x1 x3 x4 : Value) (w : World) : Prop :=
  fa 1 x1 fun t32 =>
  ld1 t32 w fun t33 =>
  fa 2 x1 fun t34 =>
  ld1 t34 w fun t35 =>
  fa 4 x1 fun t36 =>
  ld1 t36 w fun t37 =>
  fa 6 x1 fun t38 =>
  ld1 t38 w fun t39 =>
  bld [(0, 1), (1, 1), (2, 1), (3, 1), (4, 1), (5, 1), (6, 1)] (zc Try.prog 23) #[(1, t33), (2, t35), (4, t37), (6, t39)] fun t40 =>
  stn 7 x3 t40 w fun w =>
  bV x4
  (fa 4 x1 fun t43 =>
  ld1 t43 w fun t44 =>
  qG Try.prog (bq .geq 3 (.tmp 44) (.const (.int .i64 1)) t44 (.int .i64 1)) w fun t45 =>
  bV t45
  (fa 6 x1 fun t48 =>
  ld1 t48 w fun t49 =>
  qG Try.prog (bq .geq 3 (.tmp 49) (.const (.int .i64 0)) t49 (.int .i64 0)) w fun t50 =>
  entry_Check_s0 R x1 x3 t50 w)
  (entry_Check_s0 R x1 x3 (.bool false) w))
  (entry_Check_s0 R x1 x3 (.bool false) w)

theorem entry_Check_s2_eq (R : Value → World → Prop) : ∀ e w, lift Try.prog 123 (sub (bodyOf Try.f17) [1, 1, 1, 0, 1, 0, 1, 1, 1, 0]) (blockK 0 (seqK (fun e w => entry_Check_s0 R (e 1) (e 3) (e 4) w) (finK Try.prog Try.f17.results.toList R))) e w = entry_Check_s2 R (e 1) (e 3) (e 4) w := fun e w => by kernel_rfl

def entry_Check_s3 (R : Value → World → Prop) (x1 x3 x4 x14 x52 : Value) (w : World) : Prop :=
  bV x52
  (fa 5 x1 fun t55 =>
  ld1 t55 w fun t56 =>
  bld [(0, 1), (1, 1), (2, 1), (3, 1), (4, 1), (5, 1), (6, 1)] (zc Try.prog 23) #[(5, t56)] fun t57 =>
  stn 7 x3 t57 w fun w =>
  fa 5 x1 fun t58 =>
  ld1 t58 w fun t59 =>
  qG Try.prog (bq .geq 3 (.tmp 59) (.const (.int .i64 1)) t59 (.int .i64 1)) w fun t60 =>
  entry_Check_s0 R x1 x3 t60 w)
  (qG Try.prog (bq .eql 3 (.tmp 14) (.const (.int .i64 5)) x14 (.int .i64 5)) w fun t62 =>
  bV t62
  (fa 6 x1 fun t63 =>
  ld1 t63 w fun t64 =>
  bld [(0, 1), (1, 1), (2, 1), (3, 1), (4, 1), (5, 1), (6, 1)] (zc Try.prog 23) #[(6, t64)] fun t65 =>
  stn 7 x3 t65 w fun w =>
  fa 6 x1 fun t66 =>
  ld1 t66 w fun t67 =>
  qG Try.prog (bq .geq 3 (.tmp 67) (.const (.int .i64 0)) t67 (.int .i64 0)) w fun t68 =>
  entry_Check_s0 R x1 x3 t68 w)
  (qG Try.prog (bq .eql 3 (.tmp 14) (.const (.int .i64 6)) x14 (.int .i64 6)) w fun t70 =>
  bV t70
  (fa 1 x1 fun t71 =>
  ld1 t71 w fun t72 =>
  fa 2 x1 fun t73 =>
  ld1 t73 w fun t74 =>
  fa 3 x1 fun t75 =>
  ld1 t75 w fun t76 =>
  fa 4 x1 fun t77 =>
  ld1 t77 w fun t78 =>
  bld [(0, 1), (1, 1), (2, 1), (3, 1), (4, 1), (5, 1), (6, 1)] (zc Try.prog 23) #[(1, t72), (2, t74), (3, t76), (4, t78)] fun t79 =>
  stn 7 x3 t79 w fun w =>
  bV x4
  (fa 3 x1 fun t82 =>
  ld1 t82 w fun t83 =>
  callG Try.prog 54 #[t83] w fun t84 w =>
  bV t84
  (fa 3 x1 fun t87 =>
  ld1 t87 w fun t88 =>
  fa 2 x1 fun t89 =>
  ld1 t89 w fun t90 =>
  qG Try.prog (bq .neq 9 (.tmp 88) (.tmp 90) t88 t90) w fun t91 =>
  bV t91
  (fa 4 x1 fun t94 =>
  ld1 t94 w fun t95 =>
  qG Try.prog (bq .geq 3 (.tmp 95) (.const (.int .i64 1)) t95 (.int .i64 1)) w fun t96 =>
  entry_Check_s0 R x1 x3 t96 w)
  (entry_Check_s0 R x1 x3 (.bool false) w))
  (entry_Check_s0 R x1 x3 (.bool false) w))
  (entry_Check_s0 R x1 x3 (.bool false) w))
  (qG Try.prog (bq .eql 3 (.tmp 14) (.const (.int .i64 7)) x14 (.int .i64 7)) w fun t99 =>
  bV t99
  (fa 1 x1 fun t100 =>
  ld1 t100 w fun t101 =>
  fa 2 x1 fun t102 =>
  ld1 t102 w fun t103 =>
  fa 4 x1 fun t104 =>
  ld1 t104 w fun t105 =>
  bld [(0, 1), (1, 1), (2, 1), (3, 1), (4, 1), (5, 1), (6, 1)] (zc Try.prog 23) #[(1, t101), (2, t103), (4, t105)] fun t106 =>
  stn 7 x3 t106 w fun w =>
  bV x4
  (fa 4 x1 fun t109 =>
  ld1 t109 w fun t110 =>
  qG Try.prog (bq .neq 3 (.tmp 110) (.const (.int .i64 0)) t110 (.int .i64 0)) w fun t111 =>
  entry_Check_s0 R x1 x3 t111 w)
  (entry_Check_s0 R x1 x3 (.bool false) w))
  (entry_Check_s0 R x1 x3 (.bool false) w))))

theorem entry_Check_s3_eq (R : Value → World → Prop) : ∀ e w, lift Try.prog 123 (sub (bodyOf Try.f17) [1, 1, 1, 0, 1, 0, 1, 1, 1, 1, 1]) (blockK 0 (seqK (fun e w => entry_Check_s0 R (e 1) (e 3) (e 4) w) (finK Try.prog Try.f17.results.toList R))) e w = entry_Check_s3 R (e 1) (e 3) (e 4) (e 14) (e 52) w := fun e w => by kernel_rfl

def entry_Check_s4 (R : Value → World → Prop) (x1 x3 x4 x14 : Value) (w : World) : Prop :=
  qG Try.prog (bq .eql 3 (.tmp 14) (.const (.int .i64 3)) x14 (.int .i64 3)) w fun t53 =>
  bV t53
  (entry_Check_s3 R x1 x3 x4 x14 (.bool true) w)
  (qG Try.prog (bq .eql 3 (.tmp 14) (.const (.int .i64 4)) x14 (.int .i64 4)) w fun t54 =>
  entry_Check_s3 R x1 x3 x4 x14 t54 w)

theorem entry_Check_s4_eq (R : Value → World → Prop) : ∀ e w, lift Try.prog 123 (sub (bodyOf Try.f17) [1, 1, 1, 0, 1, 0, 1, 1, 1, 1]) (blockK 0 (seqK (fun e w => entry_Check_s0 R (e 1) (e 3) (e 4) w) (finK Try.prog Try.f17.results.toList R))) e w = entry_Check_s4 R (e 1) (e 3) (e 4) (e 14) w :=
  segs_eq (l := [(sub (bodyOf Try.f17) [1, 1, 1, 0, 1, 0, 1, 1, 1, 1, 0])]) (y := (sub (bodyOf Try.f17) [1, 1, 1, 0, 1, 0, 1, 1, 1, 1, 1])) (Y := (fun e w => entry_Check_s3 R (e 1) (e 3) (e 4) (e 14) (e 52) w)) (entry_Check_s3_eq R) (fun e w => by kernel_rfl)

def entry_Check_s5 (R : Value → World → Prop) (x1 x3 x4 x14 x30 : Value) (w : World) : Prop :=
  bV x30 (entry_Check_s2 R x1 x3 x4 w) (entry_Check_s4 R x1 x3 x4 x14 w)

theorem entry_Check_s5_eq (R : Value → World → Prop) : ∀ e w, lift Try.prog 123 (sub (bodyOf Try.f17) [1, 1, 1, 0, 1, 0, 1, 1, 1]) (blockK 0 (seqK (fun e w => entry_Check_s0 R (e 1) (e 3) (e 4) w) (finK Try.prog Try.f17.results.toList R))) e w = entry_Check_s5 R (e 1) (e 3) (e 4) (e 14) (e 30) w := fun e w => (cond_seg (entry_Check_s2_eq R) (entry_Check_s4_eq R) e w).trans (by kernel_rfl)

def entry_Check_s6 (R : Value → World → Prop) (x1 x3 x4 x14 : Value) (w : World) : Prop :=
  qG Try.prog (bq .eql 3 (.tmp 14) (.const (.int .i64 2)) x14 (.int .i64 2)) w fun t31 =>
  entry_Check_s5 R x1 x3 x4 x14 t31 w

theorem entry_Check_s6_eq (R : Value → World → Prop) : ∀ e w, lift Try.prog 123 (sub (bodyOf Try.f17) [1, 1, 1, 0, 1, 0, 1, 1]) (blockK 0 (seqK (fun e w => entry_Check_s0 R (e 1) (e 3) (e 4) w) (finK Try.prog Try.f17.results.toList R))) e w = entry_Check_s6 R (e 1) (e 3) (e 4) (e 14) w :=
  segs_eq (l := [(sub (bodyOf Try.f17) [1, 1, 1, 0, 1, 0, 1, 1, 0])]) (y := (sub (bodyOf Try.f17) [1, 1, 1, 0, 1, 0, 1, 1, 1])) (Y := (fun e w => entry_Check_s5 R (e 1) (e 3) (e 4) (e 14) (e 30) w)) (entry_Check_s5_eq R) (fun e w => by kernel_rfl)

def entry_Check_s7 (R : Value → World → Prop) (x1 x3 x4 x14 x15 : Value) (w : World) : Prop :=
  bV x15 (entry_Check_s1 R x1 x3 x4 w) (entry_Check_s6 R x1 x3 x4 x14 w)

theorem entry_Check_s7_eq (R : Value → World → Prop) : ∀ e w, lift Try.prog 123 (sub (bodyOf Try.f17) [1, 1, 1, 0, 1, 0, 1]) (blockK 0 (seqK (fun e w => entry_Check_s0 R (e 1) (e 3) (e 4) w) (finK Try.prog Try.f17.results.toList R))) e w = entry_Check_s7 R (e 1) (e 3) (e 4) (e 14) (e 15) w := fun e w => (cond_seg (entry_Check_s1_eq R) (entry_Check_s6_eq R) e w).trans (by kernel_rfl)

def entry_Check_s8 (R : Value → World → Prop) (x1 x3 x4 x14 : Value) (w : World) : Prop :=
  qG Try.prog (bq .eql 3 (.tmp 14) (.const (.int .i64 1)) x14 (.int .i64 1)) w fun t16 =>
  entry_Check_s7 R x1 x3 x4 x14 t16 w

theorem entry_Check_s8_eq (R : Value → World → Prop) : ∀ e w, lift Try.prog 123 (sub (bodyOf Try.f17) [1, 1, 1, 0, 1, 0]) (blockK 0 (seqK (fun e w => entry_Check_s0 R (e 1) (e 3) (e 4) w) (finK Try.prog Try.f17.results.toList R))) e w = entry_Check_s8 R (e 1) (e 3) (e 4) (e 14) w :=
  segs_eq (l := [(sub (bodyOf Try.f17) [1, 1, 1, 0, 1, 0, 0])]) (y := (sub (bodyOf Try.f17) [1, 1, 1, 0, 1, 0, 1])) (Y := (fun e w => entry_Check_s7 R (e 1) (e 3) (e 4) (e 14) (e 15) w)) (entry_Check_s7_eq R) (fun e w => by kernel_rfl)

def entry_Check_s9 (R : Value → World → Prop) (x1 x3 x4 : Value) (w : World) : Prop :=
  fa 0 x1 fun t13 =>
  ld1 t13 w fun t14 =>
  entry_Check_s8 R x1 x3 x4 t14 w

theorem entry_Check_s9_eq (R : Value → World → Prop) : ∀ e w, lift Try.prog 123 (sub (bodyOf Try.f17) [1, 1, 1, 0]) (seqK (fun e w => entry_Check_s0 R (e 1) (e 3) (e 4) w) (finK Try.prog Try.f17.results.toList R)) e w = entry_Check_s9 R (e 1) (e 3) (e 4) w :=
  segs_eq (l := [(sub (bodyOf Try.f17) [1, 1, 1, 0, 0])]) (y := (sub (bodyOf Try.f17) [1, 1, 1, 0, 1])) (Y := (fun e w => entry_Check_s8 R (e 1) (e 3) (e 4) (e 14) w)) (entry_Check_s8_eq R) (fun e w => by kernel_rfl)

def entry_Check_s10 (R : Value → World → Prop) (x0 : Value) (w : World) : Prop :=
  newG (Value.cells x0) 23 w fun t1 w =>
  newG (zc Try.prog 23) 23 w fun t3 w =>
  fa 1 t1 fun t5 =>
  ld1 t5 w fun t6 =>
  callG Try.prog 54 #[t6] w fun t7 w =>
  bV t7
  (fa 2 t1 fun t9 =>
  ld1 t9 w fun t10 =>
  callG Try.prog 54 #[t10] w fun t11 w =>
  entry_Check_s9 R t1 t3 t11 w)
  (entry_Check_s9 R t1 t3 (.bool false) w)

theorem entry_Check_s10_eq (R : Value → World → Prop) : ∀ e w, lift Try.prog 123 (bodyOf Try.f17) (finK Try.prog Try.f17.results.toList R) e w = entry_Check_s10 R (e 0) w :=
  segs_eq (l := [(sub (bodyOf Try.f17) [0]), (sub (bodyOf Try.f17) [1, 0]), (sub (bodyOf Try.f17) [1, 1, 0])]) (y := (sub (bodyOf Try.f17) [1, 1, 1])) (Y := (fun e w => entry_Check_s9 R (e 1) (e 3) (e 4) w)) (seq_seg (x := (sub (bodyOf Try.f17) [1, 1, 1, 0])) (y := (sub (bodyOf Try.f17) [1, 1, 1, 1])) (entry_Check_s0_eq R) (entry_Check_s9_eq R)) (fun e w => by kernel_rfl)

def entry_Check (R : Value → World → Prop) (x0 : Value) (w : World) : Prop := entry_Check_s10 R x0 w
theorem entry_Check_call {R : Value → World → Prop} {x0 : Value} {w : World} (h : entry_Check R x0 w) : callG Try.prog 17 #[x0] w R :=
  calls_lift_eq Try.mixed Try.func17 (args := [x0]) rfl rfl rfl rfl ((entry_Check_s10_eq R) (envOf [x0]) w) (by kernel_rfl) h
/-! quayside/quaysideref06.May -/
def ref06_May_s0 (R : Value → World → Prop) (w : World) : Prop :=
  R (.bool false) w

theorem ref06_May_s0_eq (R : Value → World → Prop) : ∀ e w, lift Try.prog 169 (sub (bodyOf Try.f50) [1, 1, 1, 1]) (finK Try.prog Try.f50.results.toList R) e w = ref06_May_s0 R w := fun e w => by kernel_rfl

def ref06_May_s1 (R : Value → World → Prop) (x1 x3 : Value) (w : World) : Prop :=
  bV x3
  (fa 3 x1 fun t27 =>
  ld1 t27 w fun t28 =>
  qG Try.prog (bq .eql 9 (.tmp 28) (.const (.string ⟨#[]⟩)) t28 (.string ⟨#[]⟩)) w fun t29 =>
  bV t29
  (fa 4 x1 fun t32 =>
  ld1 t32 w fun t33 =>
  qG Try.prog (bq .geq 3 (.tmp 33) (.const (.int .i64 1)) t33 (.int .i64 1)) w fun t34 =>
  bV t34
  (fa 5 x1 fun t37 =>
  ld1 t37 w fun t38 =>
  qG Try.prog (bq .eql 3 (.tmp 38) (.const (.int .i64 0)) t38 (.int .i64 0)) w fun t39 =>
  bV t39
  (fa 6 x1 fun t42 =>
  ld1 t42 w fun t43 =>
  qG Try.prog (bq .eql 3 (.tmp 43) (.const (.int .i64 0)) t43 (.int .i64 0)) w fun t44 =>
  R t44 w)
  (R (.bool false) w))
  (R (.bool false) w))
  (R (.bool false) w))
  (R (.bool false) w)

theorem ref06_May_s1_eq (R : Value → World → Prop) : ∀ e w, lift Try.prog 169 (sub (bodyOf Try.f50) [1, 1, 1, 0, 1, 0, 1, 0]) (blockK 0 (seqK (fun e w => ref06_May_s0 R  w) (finK Try.prog Try.f50.results.toList R))) e w = ref06_May_s1 R (e 1) (e 3) w := fun e w => by kernel_rfl

def ref06_May_s2 (R : Value → World → Prop) (x1 x3 : Value) (w : World) : Prop :=
  bV x3
  (fa 3 x1 fun t50 =>
  ld1 t50 w fun t51 =>
  qG Try.prog (bq .eql 9 (.tmp 51) (.const (.string ⟨#[]⟩)) t51 (.string ⟨#[]⟩)) w fun t52 =>
  bV t52
  (fa 4 x1 fun t55 =>
  ld1 t55 w fun t56 =>
  qG Try.prog (bq .geq 3 (.tmp 56) (.const (.int .i64 1)) t56 (.int .i64 1)) w fun t57 =>
  bV t57
  (fa 5 x1 fun t60 =>
  ld1 t60 w fun t61 =>
  qG Try.prog (bq .eql 3 (.tmp 61) (.const (.int .i64 0)) t61 (.int .i64 0)) w fun t62 =>
  bV t62
  (fa 6 x1 fun t65 =>
  ld1 t65 w fun t66 =>
  qG Try.prog (bq .geq 3 (.tmp 66) (.const (.int .i64 0)) t66 (.int .i64 0)) w fun t67 =>
  R t67 w)
  (R (.bool false) w))
  (R (.bool false) w))
  (R (.bool false) w))
  (R (.bool false) w)

theorem ref06_May_s2_eq (R : Value → World → Prop) : ∀ e w, lift Try.prog 169 (sub (bodyOf Try.f50) [1, 1, 1, 0, 1, 0, 1, 1, 1, 0]) (blockK 0 (seqK (fun e w => ref06_May_s0 R  w) (finK Try.prog Try.f50.results.toList R))) e w = ref06_May_s2 R (e 1) (e 3) w := fun e w => by kernel_rfl

def ref06_May_s3 (R : Value → World → Prop) (x1 x3 x4 x22 x69 : Value) (w : World) : Prop :=
  bV x69
  (bV x4
  (fa 3 x1 fun t74 =>
  ld1 t74 w fun t75 =>
  qG Try.prog (bq .eql 9 (.tmp 75) (.const (.string ⟨#[]⟩)) t75 (.string ⟨#[]⟩)) w fun t76 =>
  bV t76
  (fa 4 x1 fun t79 =>
  ld1 t79 w fun t80 =>
  qG Try.prog (bq .eql 3 (.tmp 80) (.const (.int .i64 0)) t80 (.int .i64 0)) w fun t81 =>
  bV t81
  (fa 5 x1 fun t84 =>
  ld1 t84 w fun t85 =>
  qG Try.prog (bq .geq 3 (.tmp 85) (.const (.int .i64 1)) t85 (.int .i64 1)) w fun t86 =>
  bV t86
  (fa 6 x1 fun t89 =>
  ld1 t89 w fun t90 =>
  qG Try.prog (bq .eql 3 (.tmp 90) (.const (.int .i64 0)) t90 (.int .i64 0)) w fun t91 =>
  R t91 w)
  (R (.bool false) w))
  (R (.bool false) w))
  (R (.bool false) w))
  (R (.bool false) w))
  (qG Try.prog (bq .eql 3 (.tmp 22) (.const (.int .i64 5)) x22 (.int .i64 5)) w fun t94 =>
  bV t94
  (bV x4
  (fa 3 x1 fun t97 =>
  ld1 t97 w fun t98 =>
  qG Try.prog (bq .eql 9 (.tmp 98) (.const (.string ⟨#[]⟩)) t98 (.string ⟨#[]⟩)) w fun t99 =>
  bV t99
  (fa 4 x1 fun t102 =>
  ld1 t102 w fun t103 =>
  qG Try.prog (bq .eql 3 (.tmp 103) (.const (.int .i64 0)) t103 (.int .i64 0)) w fun t104 =>
  bV t104
  (fa 5 x1 fun t107 =>
  ld1 t107 w fun t108 =>
  qG Try.prog (bq .eql 3 (.tmp 108) (.const (.int .i64 0)) t108 (.int .i64 0)) w fun t109 =>
  bV t109
  (fa 6 x1 fun t112 =>
  ld1 t112 w fun t113 =>
  qG Try.prog (bq .geq 3 (.tmp 113) (.const (.int .i64 0)) t113 (.int .i64 0)) w fun t114 =>
  R t114 w)
  (R (.bool false) w))
  (R (.bool false) w))
  (R (.bool false) w))
  (R (.bool false) w))
  (qG Try.prog (bq .eql 3 (.tmp 22) (.const (.int .i64 6)) x22 (.int .i64 6)) w fun t117 =>
  bV t117
  (bV x3
  (fa 3 x1 fun t120 =>
  ld1 t120 w fun t121 =>
  callG Try.prog 69 #[t121] w fun t122 w =>
  bV t122
  (fa 3 x1 fun t125 =>
  ld1 t125 w fun t126 =>
  fa 2 x1 fun t127 =>
  ld1 t127 w fun t128 =>
  qG Try.prog (bq .neq 9 (.tmp 126) (.tmp 128) t126 t128) w fun t129 =>
  bV t129
  (fa 4 x1 fun t132 =>
  ld1 t132 w fun t133 =>
  qG Try.prog (bq .geq 3 (.tmp 133) (.const (.int .i64 1)) t133 (.int .i64 1)) w fun t134 =>
  bV t134
  (fa 5 x1 fun t137 =>
  ld1 t137 w fun t138 =>
  qG Try.prog (bq .eql 3 (.tmp 138) (.const (.int .i64 0)) t138 (.int .i64 0)) w fun t139 =>
  bV t139
  (fa 6 x1 fun t142 =>
  ld1 t142 w fun t143 =>
  qG Try.prog (bq .eql 3 (.tmp 143) (.const (.int .i64 0)) t143 (.int .i64 0)) w fun t144 =>
  R t144 w)
  (R (.bool false) w))
  (R (.bool false) w))
  (R (.bool false) w))
  (R (.bool false) w))
  (R (.bool false) w))
  (qG Try.prog (bq .eql 3 (.tmp 22) (.const (.int .i64 7)) x22 (.int .i64 7)) w fun t147 =>
  bV t147
  (bV x3
  (fa 3 x1 fun t150 =>
  ld1 t150 w fun t151 =>
  qG Try.prog (bq .eql 9 (.tmp 151) (.const (.string ⟨#[]⟩)) t151 (.string ⟨#[]⟩)) w fun t152 =>
  bV t152
  (fa 4 x1 fun t155 =>
  ld1 t155 w fun t156 =>
  qG Try.prog (bq .neq 3 (.tmp 156) (.const (.int .i64 0)) t156 (.int .i64 0)) w fun t157 =>
  bV t157
  (fa 5 x1 fun t160 =>
  ld1 t160 w fun t161 =>
  qG Try.prog (bq .eql 3 (.tmp 161) (.const (.int .i64 0)) t161 (.int .i64 0)) w fun t162 =>
  bV t162
  (fa 6 x1 fun t165 =>
  ld1 t165 w fun t166 =>
  qG Try.prog (bq .eql 3 (.tmp 166) (.const (.int .i64 0)) t166 (.int .i64 0)) w fun t167 =>
  R t167 w)
  (R (.bool false) w))
  (R (.bool false) w))
  (R (.bool false) w))
  (R (.bool false) w))
  (ref06_May_s0 R  w))))

theorem ref06_May_s3_eq (R : Value → World → Prop) : ∀ e w, lift Try.prog 169 (sub (bodyOf Try.f50) [1, 1, 1, 0, 1, 0, 1, 1, 1, 1, 1]) (blockK 0 (seqK (fun e w => ref06_May_s0 R  w) (finK Try.prog Try.f50.results.toList R))) e w = ref06_May_s3 R (e 1) (e 3) (e 4) (e 22) (e 69) w := fun e w => by kernel_rfl

def ref06_May_s4 (R : Value → World → Prop) (x1 x3 x4 x22 : Value) (w : World) : Prop :=
  qG Try.prog (bq .eql 3 (.tmp 22) (.const (.int .i64 3)) x22 (.int .i64 3)) w fun t70 =>
  bV t70
  (ref06_May_s3 R x1 x3 x4 x22 (.bool true) w)
  (qG Try.prog (bq .eql 3 (.tmp 22) (.const (.int .i64 4)) x22 (.int .i64 4)) w fun t71 =>
  ref06_May_s3 R x1 x3 x4 x22 t71 w)

theorem ref06_May_s4_eq (R : Value → World → Prop) : ∀ e w, lift Try.prog 169 (sub (bodyOf Try.f50) [1, 1, 1, 0, 1, 0, 1, 1, 1, 1]) (blockK 0 (seqK (fun e w => ref06_May_s0 R  w) (finK Try.prog Try.f50.results.toList R))) e w = ref06_May_s4 R (e 1) (e 3) (e 4) (e 22) w :=
  segs_eq (l := [(sub (bodyOf Try.f50) [1, 1, 1, 0, 1, 0, 1, 1, 1, 1, 0])]) (y := (sub (bodyOf Try.f50) [1, 1, 1, 0, 1, 0, 1, 1, 1, 1, 1])) (Y := (fun e w => ref06_May_s3 R (e 1) (e 3) (e 4) (e 22) (e 69) w)) (ref06_May_s3_eq R) (fun e w => by kernel_rfl)

def ref06_May_s5 (R : Value → World → Prop) (x1 x3 x4 x22 x46 : Value) (w : World) : Prop :=
  bV x46 (ref06_May_s2 R x1 x3 w) (ref06_May_s4 R x1 x3 x4 x22 w)

theorem ref06_May_s5_eq (R : Value → World → Prop) : ∀ e w, lift Try.prog 169 (sub (bodyOf Try.f50) [1, 1, 1, 0, 1, 0, 1, 1, 1]) (blockK 0 (seqK (fun e w => ref06_May_s0 R  w) (finK Try.prog Try.f50.results.toList R))) e w = ref06_May_s5 R (e 1) (e 3) (e 4) (e 22) (e 46) w := fun e w => (cond_seg (ref06_May_s2_eq R) (ref06_May_s4_eq R) e w).trans (by kernel_rfl)

def ref06_May_s6 (R : Value → World → Prop) (x1 x3 x4 x22 : Value) (w : World) : Prop :=
  qG Try.prog (bq .eql 3 (.tmp 22) (.const (.int .i64 2)) x22 (.int .i64 2)) w fun t47 =>
  ref06_May_s5 R x1 x3 x4 x22 t47 w

theorem ref06_May_s6_eq (R : Value → World → Prop) : ∀ e w, lift Try.prog 169 (sub (bodyOf Try.f50) [1, 1, 1, 0, 1, 0, 1, 1]) (blockK 0 (seqK (fun e w => ref06_May_s0 R  w) (finK Try.prog Try.f50.results.toList R))) e w = ref06_May_s6 R (e 1) (e 3) (e 4) (e 22) w :=
  segs_eq (l := [(sub (bodyOf Try.f50) [1, 1, 1, 0, 1, 0, 1, 1, 0])]) (y := (sub (bodyOf Try.f50) [1, 1, 1, 0, 1, 0, 1, 1, 1])) (Y := (fun e w => ref06_May_s5 R (e 1) (e 3) (e 4) (e 22) (e 46) w)) (ref06_May_s5_eq R) (fun e w => by kernel_rfl)

def ref06_May_s7 (R : Value → World → Prop) (x1 x3 x4 x22 x23 : Value) (w : World) : Prop :=
  bV x23 (ref06_May_s1 R x1 x3 w) (ref06_May_s6 R x1 x3 x4 x22 w)

theorem ref06_May_s7_eq (R : Value → World → Prop) : ∀ e w, lift Try.prog 169 (sub (bodyOf Try.f50) [1, 1, 1, 0, 1, 0, 1]) (blockK 0 (seqK (fun e w => ref06_May_s0 R  w) (finK Try.prog Try.f50.results.toList R))) e w = ref06_May_s7 R (e 1) (e 3) (e 4) (e 22) (e 23) w := fun e w => (cond_seg (ref06_May_s1_eq R) (ref06_May_s6_eq R) e w).trans (by kernel_rfl)

def ref06_May_s8 (R : Value → World → Prop) (x1 x3 x4 x22 : Value) (w : World) : Prop :=
  qG Try.prog (bq .eql 3 (.tmp 22) (.const (.int .i64 1)) x22 (.int .i64 1)) w fun t24 =>
  ref06_May_s7 R x1 x3 x4 x22 t24 w

theorem ref06_May_s8_eq (R : Value → World → Prop) : ∀ e w, lift Try.prog 169 (sub (bodyOf Try.f50) [1, 1, 1, 0, 1, 0]) (blockK 0 (seqK (fun e w => ref06_May_s0 R  w) (finK Try.prog Try.f50.results.toList R))) e w = ref06_May_s8 R (e 1) (e 3) (e 4) (e 22) w :=
  segs_eq (l := [(sub (bodyOf Try.f50) [1, 1, 1, 0, 1, 0, 0])]) (y := (sub (bodyOf Try.f50) [1, 1, 1, 0, 1, 0, 1])) (Y := (fun e w => ref06_May_s7 R (e 1) (e 3) (e 4) (e 22) (e 23) w)) (ref06_May_s7_eq R) (fun e w => by kernel_rfl)

def ref06_May_s9 (R : Value → World → Prop) (x1 x3 x4 : Value) (w : World) : Prop :=
  fa 0 x1 fun t21 =>
  ld1 t21 w fun t22 =>
  ref06_May_s8 R x1 x3 x4 t22 w

theorem ref06_May_s9_eq (R : Value → World → Prop) : ∀ e w, lift Try.prog 169 (sub (bodyOf Try.f50) [1, 1, 1, 0]) (seqK (fun e w => ref06_May_s0 R  w) (finK Try.prog Try.f50.results.toList R)) e w = ref06_May_s9 R (e 1) (e 3) (e 4) w :=
  segs_eq (l := [(sub (bodyOf Try.f50) [1, 1, 1, 0, 0])]) (y := (sub (bodyOf Try.f50) [1, 1, 1, 0, 1])) (Y := (fun e w => ref06_May_s8 R (e 1) (e 3) (e 4) (e 22) w)) (ref06_May_s8_eq R) (fun e w => by kernel_rfl)

def ref06_May_s10 (R : Value → World → Prop) (x1 x3 : Value) (w : World) : Prop :=
  fa 1 x1 fun t13 =>
  ld1 t13 w fun t14 =>
  qG Try.prog (bq .eql 9 (.tmp 14) (.const (.string ⟨#[]⟩)) t14 (.string ⟨#[]⟩)) w fun t15 =>
  bV t15
  (fa 2 x1 fun t17 =>
  ld1 t17 w fun t18 =>
  qG Try.prog (bq .eql 9 (.tmp 18) (.const (.string ⟨#[]⟩)) t18 (.string ⟨#[]⟩)) w fun t19 =>
  ref06_May_s9 R x1 x3 t19 w)
  (ref06_May_s9 R x1 x3 (.bool false) w)

theorem ref06_May_s10_eq (R : Value → World → Prop) : ∀ e w, lift Try.prog 169 (sub (bodyOf Try.f50) [1, 1]) (finK Try.prog Try.f50.results.toList R) e w = ref06_May_s10 R (e 1) (e 3) w :=
  segs_eq (l := [(sub (bodyOf Try.f50) [1, 1, 0])]) (y := (sub (bodyOf Try.f50) [1, 1, 1])) (Y := (fun e w => ref06_May_s9 R (e 1) (e 3) (e 4) w)) (seq_seg (x := (sub (bodyOf Try.f50) [1, 1, 1, 0])) (y := (sub (bodyOf Try.f50) [1, 1, 1, 1])) (ref06_May_s0_eq R) (ref06_May_s9_eq R)) (fun e w => by kernel_rfl)

def ref06_May_s11 (R : Value → World → Prop) (x0 : Value) (w : World) : Prop :=
  newG (Value.cells x0) 23 w fun t1 w =>
  fa 1 t1 fun t5 =>
  ld1 t5 w fun t6 =>
  callG Try.prog 69 #[t6] w fun t7 w =>
  bV t7
  (fa 2 t1 fun t9 =>
  ld1 t9 w fun t10 =>
  callG Try.prog 69 #[t10] w fun t11 w =>
  ref06_May_s10 R t1 t11 w)
  (ref06_May_s10 R t1 (.bool false) w)

theorem ref06_May_s11_eq (R : Value → World → Prop) : ∀ e w, lift Try.prog 169 (bodyOf Try.f50) (finK Try.prog Try.f50.results.toList R) e w = ref06_May_s11 R (e 0) w :=
  segs_eq (l := [(sub (bodyOf Try.f50) [0]), (sub (bodyOf Try.f50) [1, 0])]) (y := (sub (bodyOf Try.f50) [1, 1])) (Y := (fun e w => ref06_May_s10 R (e 1) (e 3) w)) (ref06_May_s10_eq R) (fun e w => by kernel_rfl)

def ref06_May (R : Value → World → Prop) (x0 : Value) (w : World) : Prop := ref06_May_s11 R x0 w
theorem ref06_May_call {R : Value → World → Prop} {x0 : Value} {w : World} (h : ref06_May R x0 w) : callG Try.prog 50 #[x0] w R :=
  calls_lift_eq Try.mixed Try.func50 (args := [x0]) rfl rfl rfl rfl ((ref06_May_s11_eq R) (envOf [x0]) w) (by kernel_rfl) h
/-! quayside/quaysideref06.Check -/
def ref06_Check_s0 (R : Value → World → Prop) (x0 : Value) (w : World) : Prop :=
  newG (Value.cells x0) 23 w fun t1 w =>
  ldn 7 t1 w fun t3 =>
  callG Try.prog 50 #[t3] w fun t4 w =>
  qG Try.prog (Op.unary .not t4) w fun t5 =>
  bV t5
  (R (.int .i64 1) w)
  (R (.int .i64 0) w)

theorem ref06_Check_s0_eq (R : Value → World → Prop) : ∀ e w, lift Try.prog 6 (bodyOf Try.f18) (finK Try.prog Try.f18.results.toList R) e w = ref06_Check_s0 R (e 0) w := fun e w => by kernel_rfl

def ref06_Check (R : Value → World → Prop) (x0 : Value) (w : World) : Prop := ref06_Check_s0 R x0 w
theorem ref06_Check_call {R : Value → World → Prop} {x0 : Value} {w : World} (h : ref06_Check R x0 w) : callG Try.prog 18 #[x0] w R :=
  calls_lift_eq Try.mixed Try.func18 (args := [x0]) rfl rfl rfl rfl ((ref06_Check_s0_eq R) (envOf [x0]) w) (by kernel_rfl) h
/-! quayside/entry.num -/
def entry_num_s0 (R : Value → World → Prop) (x0 : Value) (w : World) : Prop :=
  newG (zc Try.prog 79) 79 w fun t2 w =>
  bld [(0, 1), (1, 1), (2, 1)] (zc Try.prog 79) #[(0, (.int .i64 1)), (1, x0)] fun t4 =>
  stn 3 t2 t4 w fun w =>
  qG Try.prog (do loadVar 79 (← asAddr t2)) w fun r2 =>
  R r2 w

theorem entry_num_s0_eq (R : Value → World → Prop) : ∀ e w, lift Try.prog 5 (bodyOf Try.f48) (finK Try.prog Try.f48.results.toList R) e w = entry_num_s0 R (e 0) w := fun e w => by kernel_rfl

def entry_num (R : Value → World → Prop) (x0 : Value) (w : World) : Prop := entry_num_s0 R x0 w
theorem entry_num_call {R : Value → World → Prop} {x0 : Value} {w : World} (h : entry_num R x0 w) : callG Try.prog 48 #[x0] w R :=
  calls_lift_eq Try.mixed Try.func48 (args := [x0]) rfl rfl rfl rfl ((entry_num_s0_eq R) (envOf [x0]) w) (by kernel_rfl) h
/-! quayside/entry.text -/
def entry_text_s0 (R : Value → World → Prop) (x0 : Value) (w : World) : Prop :=
  newG (zc Try.prog 79) 79 w fun t2 w =>
  bld [(0, 1), (1, 1), (2, 1)] (zc Try.prog 79) #[(0, (.int .i64 2)), (2, x0)] fun t4 =>
  stn 3 t2 t4 w fun w =>
  qG Try.prog (do loadVar 79 (← asAddr t2)) w fun r2 =>
  R r2 w

theorem entry_text_s0_eq (R : Value → World → Prop) : ∀ e w, lift Try.prog 5 (bodyOf Try.f49) (finK Try.prog Try.f49.results.toList R) e w = entry_text_s0 R (e 0) w := fun e w => by kernel_rfl

def entry_text (R : Value → World → Prop) (x0 : Value) (w : World) : Prop := entry_text_s0 R x0 w
theorem entry_text_call {R : Value → World → Prop} {x0 : Value} {w : World} (h : entry_text R x0 w) : callG Try.prog 49 #[x0] w R :=
  calls_lift_eq Try.mixed Try.func49 (args := [x0]) rfl rfl rfl rfl ((entry_text_s0_eq R) (envOf [x0]) w) (by kernel_rfl) h
/-! quayside/entry.some -/
def entry_some_s0 (R : Value → World → Prop) (x0 : Value) (w : World) : Prop :=
  newG (zc Try.prog 79) 79 w fun t2 w =>
  qG Try.prog (bq .eql 3 (.tmp 3) (.const (.int .i64 0)) x0 (.int .i64 0)) w fun t4 =>
  bV t4
  (bld [(0, 1), (1, 1), (2, 1)] (zc Try.prog 79) #[] fun t5 =>
  stn 3 t2 t5 w fun w =>
  qG Try.prog (do loadVar 79 (← asAddr t2)) w fun r2 =>
  R r2 w)
  (callG Try.prog 48 #[x0] w fun t7 w =>
  stn 3 t2 t7 w fun w =>
  qG Try.prog (do loadVar 79 (← asAddr t2)) w fun r2_1 =>
  R r2_1 w)

theorem entry_some_s0_eq (R : Value → World → Prop) : ∀ e w, lift Try.prog 8 (bodyOf Try.f62) (finK Try.prog Try.f62.results.toList R) e w = entry_some_s0 R (e 0) w := fun e w => by kernel_rfl

def entry_some (R : Value → World → Prop) (x0 : Value) (w : World) : Prop := entry_some_s0 R x0 w
theorem entry_some_call {R : Value → World → Prop} {x0 : Value} {w : World} (h : entry_some R x0 w) : callG Try.prog 62 #[x0] w R :=
  calls_lift_eq Try.mixed Try.func62 (args := [x0]) rfl rfl rfl rfl ((entry_some_s0_eq R) (envOf [x0]) w) (by kernel_rfl) h
/-! quayside/entry.row -/
def entry_row_s0 (R : Value → World → Prop) (x0 : Value) (w : World) : Prop :=
  R x0 w

theorem entry_row_s0_eq (R : Value → World → Prop) : ∀ e w, lift Try.prog 4 (bodyOf Try.f47) (finK Try.prog Try.f47.results.toList R) e w = entry_row_s0 R (e 0) w := fun e w => by kernel_rfl

def entry_row (R : Value → World → Prop) (x0 : Value) (w : World) : Prop := entry_row_s0 R x0 w
theorem entry_row_call {R : Value → World → Prop} {x0 : Value} {w : World} (h : entry_row R x0 w) : callG Try.prog 47 #[x0] w R :=
  calls_lift_eq Try.mixed Try.func47 (args := [x0]) rfl rfl rfl rfl ((entry_row_s0_eq R) (envOf [x0]) w) (by kernel_rfl) h
/-! quayside/quaysideref06.num -/
def ref06_num_s0 (R : Value → World → Prop) (x0 : Value) (w : World) : Prop :=
  newG (zc Try.prog 79) 79 w fun t2 w =>
  bld [(0, 1), (1, 1), (2, 1)] (zc Try.prog 79) #[(0, (.int .i64 1)), (1, x0)] fun t4 =>
  stn 3 t2 t4 w fun w =>
  qG Try.prog (do loadVar 79 (← asAddr t2)) w fun r2 =>
  R r2 w

theorem ref06_num_s0_eq (R : Value → World → Prop) : ∀ e w, lift Try.prog 5 (bodyOf Try.f52) (finK Try.prog Try.f52.results.toList R) e w = ref06_num_s0 R (e 0) w := fun e w => by kernel_rfl

def ref06_num (R : Value → World → Prop) (x0 : Value) (w : World) : Prop := ref06_num_s0 R x0 w
theorem ref06_num_call {R : Value → World → Prop} {x0 : Value} {w : World} (h : ref06_num R x0 w) : callG Try.prog 52 #[x0] w R :=
  calls_lift_eq Try.mixed Try.func52 (args := [x0]) rfl rfl rfl rfl ((ref06_num_s0_eq R) (envOf [x0]) w) (by kernel_rfl) h
/-! quayside/quaysideref06.text -/
def ref06_text_s0 (R : Value → World → Prop) (x0 : Value) (w : World) : Prop :=
  newG (zc Try.prog 79) 79 w fun t2 w =>
  bld [(0, 1), (1, 1), (2, 1)] (zc Try.prog 79) #[(0, (.int .i64 2)), (2, x0)] fun t4 =>
  stn 3 t2 t4 w fun w =>
  qG Try.prog (do loadVar 79 (← asAddr t2)) w fun r2 =>
  R r2 w

theorem ref06_text_s0_eq (R : Value → World → Prop) : ∀ e w, lift Try.prog 5 (bodyOf Try.f53) (finK Try.prog Try.f53.results.toList R) e w = ref06_text_s0 R (e 0) w := fun e w => by kernel_rfl

def ref06_text (R : Value → World → Prop) (x0 : Value) (w : World) : Prop := ref06_text_s0 R x0 w
theorem ref06_text_call {R : Value → World → Prop} {x0 : Value} {w : World} (h : ref06_text R x0 w) : callG Try.prog 53 #[x0] w R :=
  calls_lift_eq Try.mixed Try.func53 (args := [x0]) rfl rfl rfl rfl ((ref06_text_s0_eq R) (envOf [x0]) w) (by kernel_rfl) h
/-! quayside/quaysideref06.some -/
def ref06_some_s0 (R : Value → World → Prop) (x0 : Value) (w : World) : Prop :=
  newG (zc Try.prog 79) 79 w fun t2 w =>
  qG Try.prog (bq .eql 3 (.tmp 3) (.const (.int .i64 0)) x0 (.int .i64 0)) w fun t4 =>
  bV t4
  (bld [(0, 1), (1, 1), (2, 1)] (zc Try.prog 79) #[] fun t5 =>
  stn 3 t2 t5 w fun w =>
  qG Try.prog (do loadVar 79 (← asAddr t2)) w fun r2 =>
  R r2 w)
  (callG Try.prog 52 #[x0] w fun t7 w =>
  stn 3 t2 t7 w fun w =>
  qG Try.prog (do loadVar 79 (← asAddr t2)) w fun r2_1 =>
  R r2_1 w)

theorem ref06_some_s0_eq (R : Value → World → Prop) : ∀ e w, lift Try.prog 8 (bodyOf Try.f63) (finK Try.prog Try.f63.results.toList R) e w = ref06_some_s0 R (e 0) w := fun e w => by kernel_rfl

def ref06_some (R : Value → World → Prop) (x0 : Value) (w : World) : Prop := ref06_some_s0 R x0 w
theorem ref06_some_call {R : Value → World → Prop} {x0 : Value} {w : World} (h : ref06_some R x0 w) : callG Try.prog 63 #[x0] w R :=
  calls_lift_eq Try.mixed Try.func63 (args := [x0]) rfl rfl rfl rfl ((ref06_some_s0_eq R) (envOf [x0]) w) (by kernel_rfl) h
/-! quayside/entry.is -/
def entry_is_s0 (R : Value → World → Prop) (w : World) : Prop :=
  R (.bool true) w

theorem entry_is_s0_eq (R : Value → World → Prop) : ∀ e w, lift Try.prog 52 (sub (bodyOf Try.f56) [1, 1, 1]) (finK Try.prog Try.f56.results.toList R) e w = entry_is_s0 R w := fun e w => by kernel_rfl

def entry_is_s1 (R : Value → World → Prop) (N1 : List Value → World → Prop) (x1 x13 x14 x15 : Value) (w : World) : Prop :=
  qG Try.prog (bq .add 3 (.tmp 15) (.const (.int .i64 1)) x15 (.int .i64 1)) w fun t51 =>
  N1 [x1, x13, x14, t51] w

theorem entry_is_s1_eq (R : Value → World → Prop) (N1 : List Value → World → Prop) : ∀ e w, lift Try.prog 52 (sub (bodyOf Try.f56) [1, 1, 0, 1, 0, 0, 1, 1, 1]) (seqK (fun e w => N1 [e 1, e 13, e 14, e 15] w) (blockK 0 (seqK (fun e w => entry_is_s0 R  w) (finK Try.prog Try.f56.results.toList R)))) e w = entry_is_s1 R N1 (e 1) (e 13) (e 14) (e 15) w := fun e w => by kernel_rfl

def entry_is_s2 (R : Value → World → Prop) (N1 : List Value → World → Prop) (x1 x5 x6 x7 x13 x14 x15 : Value) (w : World) : Prop :=
  fa 0 x6 fun t35 =>
  ld1 t35 (World.drew w) fun t36 =>
  ia 1 x1 x5 fun t39 =>
  ld1 t39 (World.drew w) fun t40 =>
  qG Try.prog (bq .neq 3 (.tmp 36) (.tmp 40) t36 t40) (World.drew w) fun t41 =>
  bV t41
  (qG Try.prog (Op.unary .not x7) (World.drew w) fun t44 =>
  bV t44
  (R (.bool false) (World.drew w))
  (ldn 3 x6 (World.drew w) fun t47 =>
  callG Try.prog 79 #[t47] (World.drew w) fun t48 w =>
  qG Try.prog (bq .neq 26 (.tmp 48) (.const (.int .i64 0)) t48 (.int .i64 0)) w fun t49 =>
  bV t49
  (R (.bool false) w)
  (entry_is_s1 R N1 x1 x13 x14 x15 w)))
  (ldn 3 x6 (World.drew w) fun t47_1 =>
  callG Try.prog 79 #[t47_1] (World.drew w) fun t48_1 w =>
  qG Try.prog (bq .neq 26 (.tmp 48) (.const (.int .i64 0)) t48_1 (.int .i64 0)) w fun t49_1 =>
  bV t49_1
  (R (.bool false) w)
  (entry_is_s1 R N1 x1 x13 x14 x15 w))

theorem entry_is_s2_eq (R : Value → World → Prop) (N1 : List Value → World → Prop) : ∀ e w, lift Try.prog 52 (sub (bodyOf Try.f56) [1, 1, 0, 1, 0, 0, 1, 1, 0, 0, 1, 1]) (blockK 1 (seqK (fun e w => entry_is_s1 R N1 (e 1) (e 13) (e 14) (e 15) w) (seqK (fun e w => N1 [e 1, e 13, e 14, e 15] w) (blockK 0 (seqK (fun e w => entry_is_s0 R  w) (finK Try.prog Try.f56.results.toList R)))))) e w = entry_is_s2 R N1 (e 1) (e 5) (e 6) (e 7) (e 13) (e 14) (e 15) w := fun e w => by kernel_rfl

def entry_is_s3 (R : Value → World → Prop) (N1 : List Value → World → Prop) (x1 x13 x14 x15 : Value) (w : World) : Prop :=
  ia 3 x13 x15 fun t18 =>
  ldn 3 t18 w fun t19 =>
  newG (zc Try.prog 79) 79 w fun t6 w =>
  stn 3 t6 t19 w fun w =>
  ia 1 x1 x15 fun t22 =>
  ld1 t22 w fun t23 =>
  qG Try.prog (bq .eql 3 (.tmp 23) (.const (.int .i64 0)) t23 (.int .i64 0)) w fun t24 =>
  bV t24
  (fa 0 t6 fun t26 =>
  ld1 t26 w fun t27 =>
  qG Try.prog (bq .eql 3 (.tmp 27) (.const (.int .i64 1)) t27 (.int .i64 1)) w fun t28 =>
  bV t28
  (fa 1 t6 fun t31 =>
  ld1 t31 w fun t32 =>
  qG Try.prog (bq .neq 3 (.tmp 32) (.const (.int .i64 0)) t32 (.int .i64 0)) w fun t33 =>
  entry_is_s2 R N1 x1 x15 t6 t33 x13 x14 x15 w)
  (entry_is_s2 R N1 x1 x15 t6 (.bool false) x13 x14 x15 w))
  (entry_is_s2 R N1 x1 x15 t6 (.bool false) x13 x14 x15 w)

theorem entry_is_s3_eq (R : Value → World → Prop) (N1 : List Value → World → Prop) : ∀ e w, lift Try.prog 52 (sub (bodyOf Try.f56) [1, 1, 0, 1, 0, 0, 1, 1, 0, 0]) (blockK 1 (seqK (fun e w => entry_is_s1 R N1 (e 1) (e 13) (e 14) (e 15) w) (seqK (fun e w => N1 [e 1, e 13, e 14, e 15] w) (blockK 0 (seqK (fun e w => entry_is_s0 R  w) (finK Try.prog Try.f56.results.toList R)))))) e w = entry_is_s3 R N1 (e 1) (e 13) (e 14) (e 15) w :=
  segs_eq (l := [(sub (bodyOf Try.f56) [1, 1, 0, 1, 0, 0, 1, 1, 0, 0, 0]), (sub (bodyOf Try.f56) [1, 1, 0, 1, 0, 0, 1, 1, 0, 0, 1, 0])]) (y := (sub (bodyOf Try.f56) [1, 1, 0, 1, 0, 0, 1, 1, 0, 0, 1, 1])) (Y := (fun e w => entry_is_s2 R N1 (e 1) (e 5) (e 6) (e 7) (e 13) (e 14) (e 15) w)) (entry_is_s2_eq R N1) (fun e w => by kernel_rfl)

def entry_is_s4 (R : Value → World → Prop) (N1 : List Value → World → Prop) (x1 x13 x14 x15 : Value) (w : World) : Prop :=
  qG Try.prog (bq .lss 3 (.tmp 15) (.tmp 14) x15 x14) w fun t16 =>
  bV t16
  (entry_is_s3 R N1 x1 x13 x14 x15 w)
  (entry_is_s0 R  w)

theorem entry_is_s4_eq (R : Value → World → Prop) (N1 : List Value → World → Prop) : ∀ e w, lift Try.prog 52 (sub (bodyOf Try.f56) [1, 1, 0, 1, 0, 0]) (seqK (fun e w => N1 [e 1, e 13, e 14, e 15] w) (blockK 0 (seqK (fun e w => entry_is_s0 R  w) (finK Try.prog Try.f56.results.toList R)))) e w = entry_is_s4 R N1 (e 1) (e 13) (e 14) (e 15) w :=
  segs_eq (l := [(sub (bodyOf Try.f56) [1, 1, 0, 1, 0, 0, 0]), (sub (bodyOf Try.f56) [1, 1, 0, 1, 0, 0, 1, 0])]) (y := (sub (bodyOf Try.f56) [1, 1, 0, 1, 0, 0, 1, 1])) (Y := (fun e w => entry_is_s3 R N1 (e 1) (e 13) (e 14) (e 15) w)) (seq_seg (x := (sub (bodyOf Try.f56) [1, 1, 0, 1, 0, 0, 1, 1, 0])) (y := (sub (bodyOf Try.f56) [1, 1, 0, 1, 0, 0, 1, 1, 1])) (entry_is_s1_eq R N1) (entry_is_s3_eq R N1)) (fun e w => by kernel_rfl)

def entry_is_L5F (R : Value → World → Prop) (N1 : List Value → World → Prop) (xs : List Value) (w : World) : Prop :=
  match xs with
  | [x1, x13, x14, x15] => entry_is_s4 R N1 x1 x13 x14 x15 w
  | _ => False

def entry_is_L5 (R : Value → World → Prop) (x1 x13 x14 x15 : Value) (w : World) : Prop :=
  ∃ m, loopV (entry_is_L5F R) m [x1, x13, x14, x15] w

theorem entry_is_L5_eq (R : Value → World → Prop) : ∀ e w, lift Try.prog 52 (sub (bodyOf Try.f56) [1, 1, 0, 1, 0]) (blockK 0 (seqK (fun e w => entry_is_s0 R  w) (finK Try.prog Try.f56.results.toList R))) e w = entry_is_L5 R (e 1) (e 13) (e 14) (e 15) w := loop_seg (F := entry_is_L5F R) (sel := fun e => [e 1, e 13, e 14, e 15]) fun N1 => (entry_is_s4_eq R N1)

def entry_is_s6 (R : Value → World → Prop) (x0 x1 : Value) (w : World) : Prop :=
  lenL x0 fun t14 =>
  entry_is_L5 R x1 x0 t14 (.int .i64 0) w

theorem entry_is_s6_eq (R : Value → World → Prop) : ∀ e w, lift Try.prog 52 (sub (bodyOf Try.f56) [1, 1, 0]) (seqK (fun e w => entry_is_s0 R  w) (finK Try.prog Try.f56.results.toList R)) e w = entry_is_s6 R (e 0) (e 1) w :=
  segs_eq (l := [(sub (bodyOf Try.f56) [1, 1, 0, 0])]) (y := (sub (bodyOf Try.f56) [1, 1, 0, 1])) (Y := (fun e w => entry_is_L5 R (e 1) (e 13) (e 14) (e 15) w)) (entry_is_L5_eq R) (fun e w => by kernel_rfl)

def entry_is_s7 (R : Value → World → Prop) (x0 x1 : Value) (w : World) : Prop :=
  lenL x0 fun t9 =>
  lenL x1 fun t11 =>
  qG Try.prog (bq .neq 3 (.tmp 9) (.tmp 11) t9 t11) w fun t12 =>
  bV t12
  (R (.bool false) w)
  (entry_is_s6 R x0 x1 w)

theorem entry_is_s7_eq (R : Value → World → Prop) : ∀ e w, lift Try.prog 52 (bodyOf Try.f56) (finK Try.prog Try.f56.results.toList R) e w = entry_is_s7 R (e 0) (e 1) w :=
  segs_eq (l := [(sub (bodyOf Try.f56) [0]), (sub (bodyOf Try.f56) [1, 0])]) (y := (sub (bodyOf Try.f56) [1, 1])) (Y := (fun e w => entry_is_s6 R (e 0) (e 1) w)) (seq_seg (x := (sub (bodyOf Try.f56) [1, 1, 0])) (y := (sub (bodyOf Try.f56) [1, 1, 1])) (entry_is_s0_eq R) (entry_is_s6_eq R)) (fun e w => by kernel_rfl)

def entry_is (R : Value → World → Prop) (x0 x1 : Value) (w : World) : Prop := entry_is_s7 R x0 x1 w
theorem entry_is_call {R : Value → World → Prop} {x0 x1 : Value} {w : World} (h : entry_is R x0 x1 w) : callG Try.prog 56 #[x0, x1] w R :=
  calls_lift_eq Try.mixed Try.func56 (args := [x0, x1]) rfl rfl rfl rfl ((entry_is_s7_eq R) (envOf [x0, x1]) w) (by kernel_rfl) h
/-! quayside/quaysideref06.kinds -/
def ref06_kinds_s0 (R : Value → World → Prop) (w : World) : Prop :=
  R (.bool true) w

theorem ref06_kinds_s0_eq (R : Value → World → Prop) : ∀ e w, lift Try.prog 57 (sub (bodyOf Try.f58) [1, 1, 1]) (finK Try.prog Try.f58.results.toList R) e w = ref06_kinds_s0 R w := fun e w => by kernel_rfl

def ref06_kinds_s1 (R : Value → World → Prop) (N1 : List Value → World → Prop) (x0 x1 x5 : Value) (w : World) : Prop :=
  qG Try.prog (bq .add 3 (.tmp 17) (.const (.int .i64 1)) x5 (.int .i64 1)) w fun t18 =>
  N1 [x0, x1, t18] w

theorem ref06_kinds_s1_eq (R : Value → World → Prop) (N1 : List Value → World → Prop) : ∀ e w, lift Try.prog 57 (sub (bodyOf Try.f58) [1, 1, 0, 1, 0, 0, 1, 1]) (seqK (fun e w => N1 [e 0, e 1, e 5] w) (blockK 0 (seqK (fun e w => ref06_kinds_s0 R  w) (finK Try.prog Try.f58.results.toList R)))) e w = ref06_kinds_s1 R N1 (e 0) (e 1) (e 5) w := fun e w => by kernel_rfl

def ref06_kinds_s2 (R : Value → World → Prop) (N1 : List Value → World → Prop) (x0 x1 x5 x6 x7 : Value) (w : World) : Prop :=
  qG Try.prog (Op.unary .not x7) w fun t51 =>
  bV t51
  (R (.bool false) w)
  (ldn 3 x6 w fun t53 =>
  callG Try.prog 83 #[t53] w fun t54 w =>
  qG Try.prog (Op.unary .not t54) w fun t55 =>
  bV t55
  (R (.bool false) w)
  (ref06_kinds_s1 R N1 x0 x1 x5 w))

theorem ref06_kinds_s2_eq (R : Value → World → Prop) (N1 : List Value → World → Prop) : ∀ e w, lift Try.prog 57 (sub (bodyOf Try.f58) [1, 1, 0, 1, 0, 0, 1, 0, 0, 1, 1, 1, 1]) (blockK 1 (seqK (fun e w => ref06_kinds_s1 R N1 (e 0) (e 1) (e 5) w) (seqK (fun e w => N1 [e 0, e 1, e 5] w) (blockK 0 (seqK (fun e w => ref06_kinds_s0 R  w) (finK Try.prog Try.f58.results.toList R)))))) e w = ref06_kinds_s2 R N1 (e 0) (e 1) (e 5) (e 6) (e 7) w := fun e w => by kernel_rfl

def ref06_kinds_s3 (R : Value → World → Prop) (N1 : List Value → World → Prop) (x0 x1 x5 x6 x7 : Value) (w : World) : Prop :=
  ixS x1 x5 fun t35 =>
  qG Try.prog (bq .eql 5 (.tmp 35) (.const (.int .u8 109)) t35 (.int .u8 109)) w fun t36 =>
  bV t36
  (fa 0 x6 fun t37 =>
  ld1 t37 w fun t38 =>
  qG Try.prog (bq .eql 3 (.tmp 38) (.const (.int .i64 0)) t38 (.int .i64 0)) w fun t39 =>
  bV t39
  (ref06_kinds_s2 R N1 x0 x1 x5 x6 (.bool true) w)
  (fa 0 x6 fun t41 =>
  ld1 t41 w fun t42 =>
  qG Try.prog (bq .eql 3 (.tmp 42) (.const (.int .i64 1)) t42 (.int .i64 1)) w fun t43 =>
  bV t43
  (fa 1 x6 fun t45 =>
  ld1 t45 w fun t46 =>
  qG Try.prog (bq .neq 3 (.tmp 46) (.const (.int .i64 0)) t46 (.int .i64 0)) w fun t47 =>
  ref06_kinds_s2 R N1 x0 x1 x5 x6 t47 w)
  (ref06_kinds_s2 R N1 x0 x1 x5 x6 (.bool false) w)))
  (ref06_kinds_s2 R N1 x0 x1 x5 x6 x7 w)

theorem ref06_kinds_s3_eq (R : Value → World → Prop) (N1 : List Value → World → Prop) : ∀ e w, lift Try.prog 57 (sub (bodyOf Try.f58) [1, 1, 0, 1, 0, 0, 1, 0, 0, 1, 1, 1]) (blockK 1 (seqK (fun e w => ref06_kinds_s1 R N1 (e 0) (e 1) (e 5) w) (seqK (fun e w => N1 [e 0, e 1, e 5] w) (blockK 0 (seqK (fun e w => ref06_kinds_s0 R  w) (finK Try.prog Try.f58.results.toList R)))))) e w = ref06_kinds_s3 R N1 (e 0) (e 1) (e 5) (e 6) (e 7) w :=
  segs_eq (l := [(sub (bodyOf Try.f58) [1, 1, 0, 1, 0, 0, 1, 0, 0, 1, 1, 1, 0])]) (y := (sub (bodyOf Try.f58) [1, 1, 0, 1, 0, 0, 1, 0, 0, 1, 1, 1, 1])) (Y := (fun e w => ref06_kinds_s2 R N1 (e 0) (e 1) (e 5) (e 6) (e 7) w)) (ref06_kinds_s2_eq R N1) (fun e w => by kernel_rfl)

def ref06_kinds_s4 (R : Value → World → Prop) (N1 : List Value → World → Prop) (x0 x1 x5 : Value) (w : World) : Prop :=
  ia 3 x0 x5 fun t21 =>
  ldn 3 t21 w fun t22 =>
  newG (zc Try.prog 79) 79 w fun t6 w =>
  stn 3 t6 t22 w fun w =>
  fa 0 t6 fun t23 =>
  ld1 t23 w fun t24 =>
  qG Try.prog (bq .eql 3 (.tmp 24) (.const (.int .i64 1)) t24 (.int .i64 1)) w fun t25 =>
  ixS x1 x5 fun t28 =>
  qG Try.prog (bq .eql 5 (.tmp 28) (.const (.int .u8 116)) t28 (.int .u8 116)) w fun t29 =>
  bV t29
  (fa 0 t6 fun t30 =>
  ld1 t30 w fun t31 =>
  qG Try.prog (bq .eql 3 (.tmp 31) (.const (.int .i64 2)) t31 (.int .i64 2)) w fun t32 =>
  ref06_kinds_s3 R N1 x0 x1 x5 t6 t32 w)
  (ref06_kinds_s3 R N1 x0 x1 x5 t6 t25 w)

theorem ref06_kinds_s4_eq (R : Value → World → Prop) (N1 : List Value → World → Prop) : ∀ e w, lift Try.prog 57 (sub (bodyOf Try.f58) [1, 1, 0, 1, 0, 0, 1, 0, 0]) (blockK 1 (seqK (fun e w => ref06_kinds_s1 R N1 (e 0) (e 1) (e 5) w) (seqK (fun e w => N1 [e 0, e 1, e 5] w) (blockK 0 (seqK (fun e w => ref06_kinds_s0 R  w) (finK Try.prog Try.f58.results.toList R)))))) e w = ref06_kinds_s4 R N1 (e 0) (e 1) (e 5) w :=
  segs_eq (l := [(sub (bodyOf Try.f58) [1, 1, 0, 1, 0, 0, 1, 0, 0, 0]), (sub (bodyOf Try.f58) [1, 1, 0, 1, 0, 0, 1, 0, 0, 1, 0]), (sub (bodyOf Try.f58) [1, 1, 0, 1, 0, 0, 1, 0, 0, 1, 1, 0])]) (y := (sub (bodyOf Try.f58) [1, 1, 0, 1, 0, 0, 1, 0, 0, 1, 1, 1])) (Y := (fun e w => ref06_kinds_s3 R N1 (e 0) (e 1) (e 5) (e 6) (e 7) w)) (ref06_kinds_s3_eq R N1) (fun e w => by kernel_rfl)

def ref06_kinds_s5 (R : Value → World → Prop) (N1 : List Value → World → Prop) (x0 x1 x5 : Value) (w : World) : Prop :=
  lenL x0 fun t15 =>
  qG Try.prog (bq .lss 3 (.tmp 13) (.tmp 15) x5 t15) w fun t16 =>
  bV t16
  (ref06_kinds_s4 R N1 x0 x1 x5 w)
  (ref06_kinds_s0 R  w)

theorem ref06_kinds_s5_eq (R : Value → World → Prop) (N1 : List Value → World → Prop) : ∀ e w, lift Try.prog 57 (sub (bodyOf Try.f58) [1, 1, 0, 1, 0, 0]) (seqK (fun e w => N1 [e 0, e 1, e 5] w) (blockK 0 (seqK (fun e w => ref06_kinds_s0 R  w) (finK Try.prog Try.f58.results.toList R)))) e w = ref06_kinds_s5 R N1 (e 0) (e 1) (e 5) w :=
  segs_eq (l := [(sub (bodyOf Try.f58) [1, 1, 0, 1, 0, 0, 0])]) (y := (sub (bodyOf Try.f58) [1, 1, 0, 1, 0, 0, 1])) (Y := (fun e w => ref06_kinds_s4 R N1 (e 0) (e 1) (e 5) w)) (seq_seg (x := (sub (bodyOf Try.f58) [1, 1, 0, 1, 0, 0, 1, 0])) (y := (sub (bodyOf Try.f58) [1, 1, 0, 1, 0, 0, 1, 1])) (ref06_kinds_s1_eq R N1) (ref06_kinds_s4_eq R N1)) (fun e w => by kernel_rfl)

def ref06_kinds_L6F (R : Value → World → Prop) (N1 : List Value → World → Prop) (xs : List Value) (w : World) : Prop :=
  match xs with
  | [x0, x1, x5] => ref06_kinds_s5 R N1 x0 x1 x5 w
  | _ => False

def ref06_kinds_L6 (R : Value → World → Prop) (x0 x1 x5 : Value) (w : World) : Prop :=
  ∃ m, loopV (ref06_kinds_L6F R) m [x0, x1, x5] w

theorem ref06_kinds_L6_eq (R : Value → World → Prop) : ∀ e w, lift Try.prog 57 (sub (bodyOf Try.f58) [1, 1, 0, 1, 0]) (blockK 0 (seqK (fun e w => ref06_kinds_s0 R  w) (finK Try.prog Try.f58.results.toList R))) e w = ref06_kinds_L6 R (e 0) (e 1) (e 5) w := loop_seg (F := ref06_kinds_L6F R) (sel := fun e => [e 0, e 1, e 5]) fun N1 => (ref06_kinds_s5_eq R N1)

def ref06_kinds_s7 (R : Value → World → Prop) (x0 x1 : Value) (w : World) : Prop :=
  ref06_kinds_L6 R x0 x1 (.int .i64 0) w

theorem ref06_kinds_s7_eq (R : Value → World → Prop) : ∀ e w, lift Try.prog 57 (sub (bodyOf Try.f58) [1, 1, 0]) (seqK (fun e w => ref06_kinds_s0 R  w) (finK Try.prog Try.f58.results.toList R)) e w = ref06_kinds_s7 R (e 0) (e 1) w :=
  segs_eq (l := [(sub (bodyOf Try.f58) [1, 1, 0, 0])]) (y := (sub (bodyOf Try.f58) [1, 1, 0, 1])) (Y := (fun e w => ref06_kinds_L6 R (e 0) (e 1) (e 5) w)) (ref06_kinds_L6_eq R) (fun e w => by kernel_rfl)

def ref06_kinds_s8 (R : Value → World → Prop) (x0 x1 : Value) (w : World) : Prop :=
  lenL x0 fun t9 =>
  lenS x1 fun t11 =>
  qG Try.prog (bq .neq 3 (.tmp 9) (.tmp 11) t9 t11) w fun t12 =>
  bV t12
  (R (.bool false) w)
  (ref06_kinds_s7 R x0 x1 w)

theorem ref06_kinds_s8_eq (R : Value → World → Prop) : ∀ e w, lift Try.prog 57 (bodyOf Try.f58) (finK Try.prog Try.f58.results.toList R) e w = ref06_kinds_s8 R (e 0) (e 1) w :=
  segs_eq (l := [(sub (bodyOf Try.f58) [0]), (sub (bodyOf Try.f58) [1, 0])]) (y := (sub (bodyOf Try.f58) [1, 1])) (Y := (fun e w => ref06_kinds_s7 R (e 0) (e 1) w)) (seq_seg (x := (sub (bodyOf Try.f58) [1, 1, 0])) (y := (sub (bodyOf Try.f58) [1, 1, 1])) (ref06_kinds_s0_eq R) (ref06_kinds_s7_eq R)) (fun e w => by kernel_rfl)

def ref06_kinds (R : Value → World → Prop) (x0 x1 : Value) (w : World) : Prop := ref06_kinds_s8 R x0 x1 w
theorem ref06_kinds_call {R : Value → World → Prop} {x0 x1 : Value} {w : World} (h : ref06_kinds R x0 x1 w) : callG Try.prog 58 #[x0, x1] w R :=
  calls_lift_eq Try.mixed Try.func58 (args := [x0, x1]) rfl rfl rfl rfl ((ref06_kinds_s8_eq R) (envOf [x0, x1]) w) (by kernel_rfl) h
/-! quayside/entry.Put -/
def entry_Put_s0 (R : Value → World → Prop) (x0 : Value) (w : World) : Prop :=
  newG (Value.cells x0) 23 w fun t1 w =>
  ldn 7 t1 w fun t5 =>
  callG Try.prog 17 #[t5] w fun t6 w =>
  qG Try.prog (bq .neq 26 (.tmp 7) (.const (.int .i64 0)) t6 (.int .i64 0)) w fun t8 =>
  bV t8
  (R (.tuple #[(.string ⟨#[]⟩), t6]) w)
  (fa 0 t1 fun t10 =>
  ld1 t10 (World.drew w) fun t11 =>
  fa 1 t1 fun t13 =>
  ld1 t13 (World.drew w) fun t14 =>
  fa 2 t1 fun t16 =>
  ld1 t16 (World.drew w) fun t17 =>
  fa 3 t1 fun t19 =>
  ld1 t19 (World.drew w) fun t20 =>
  fa 4 t1 fun t22 =>
  ld1 t22 (World.drew w) fun t23 =>
  fa 5 t1 fun t25 =>
  ld1 t25 (World.drew w) fun t26 =>
  fa 6 t1 fun t28 =>
  ld1 t28 (World.drew w) fun t29 =>
  callG Try.prog 48 #[t11] (World.drew w) fun t12 w =>
  ld1 t28 w (fun u => u = t29) ∧
  ld1 t25 w (fun u => u = t26) ∧
  ld1 t22 w (fun u => u = t23) ∧
  ld1 t19 w (fun u => u = t20) ∧
  ld1 t16 w (fun u => u = t17) ∧
  ld1 t13 w (fun u => u = t14) ∧
  callG Try.prog 49 #[t14] w fun t15 w =>
  ld1 t28 w (fun u => u = t29) ∧
  ld1 t25 w (fun u => u = t26) ∧
  ld1 t22 w (fun u => u = t23) ∧
  ld1 t19 w (fun u => u = t20) ∧
  ld1 t16 w (fun u => u = t17) ∧
  callG Try.prog 49 #[t17] w fun t18 w =>
  ld1 t28 w (fun u => u = t29) ∧
  ld1 t25 w (fun u => u = t26) ∧
  ld1 t22 w (fun u => u = t23) ∧
  ld1 t19 w (fun u => u = t20) ∧
  callG Try.prog 49 #[t20] w fun t21 w =>
  ld1 t28 w (fun u => u = t29) ∧
  ld1 t25 w (fun u => u = t26) ∧
  ld1 t22 w (fun u => u = t23) ∧
  callG Try.prog 48 #[t23] w fun t24 w =>
  ld1 t28 w (fun u => u = t29) ∧
  ld1 t25 w (fun u => u = t26) ∧
  callG Try.prog 48 #[t26] w fun t27 w =>
  ld1 t28 w (fun u => u = t29) ∧
  callG Try.prog 48 #[t29] w fun t30 w =>
  bsl 79 3 7 (zc Try.prog 79) #[(0, t12), (1, t15), (2, t18), (3, t21), (4, t24), (5, t27), (6, t30)] w fun t31 w =>
  callG Try.prog 47 #[t31] w fun t32 w =>
  callG Try.prog 46 #[t32] w fun t33 w =>
  qG Try.prog (Instr.extract t33 0) w fun t34 =>
  qG Try.prog (Instr.extract t33 1) w fun t35 =>
  R (.tuple #[t34, t35]) w)

theorem entry_Put_s0_eq (R : Value → World → Prop) : ∀ e w, lift Try.prog 36 (bodyOf Try.f15) (finK Try.prog Try.f15.results.toList R) e w = entry_Put_s0 R (e 0) w := fun e w => by kernel_rfl

def entry_Put (R : Value → World → Prop) (x0 : Value) (w : World) : Prop := entry_Put_s0 R x0 w
theorem entry_Put_call {R : Value → World → Prop} {x0 : Value} {w : World} (h : entry_Put R x0 w) : callG Try.prog 15 #[x0] w R :=
  calls_lift_eq Try.mixed Try.func15 (args := [x0]) rfl rfl rfl rfl ((entry_Put_s0_eq R) (envOf [x0]) w) (by kernel_rfl) h
/-! quayside/quaysideref06.Put -/
def ref06_Put_s0 (R : Value → World → Prop) (x0 : Value) (w : World) : Prop :=
  newG (Value.cells x0) 23 w fun t1 w =>
  ldn 7 t1 w fun t4 =>
  callG Try.prog 50 #[t4] w fun t5 w =>
  qG Try.prog (Op.unary .not t5) w fun t6 =>
  bV t6
  (R (.tuple #[(.string ⟨#[]⟩), (.int .i64 1)]) w)
  (fa 0 t1 fun t7 =>
  ld1 t7 (World.drew w) fun t8 =>
  fa 1 t1 fun t10 =>
  ld1 t10 (World.drew w) fun t11 =>
  fa 2 t1 fun t13 =>
  ld1 t13 (World.drew w) fun t14 =>
  fa 3 t1 fun t16 =>
  ld1 t16 (World.drew w) fun t17 =>
  fa 4 t1 fun t19 =>
  ld1 t19 (World.drew w) fun t20 =>
  fa 5 t1 fun t22 =>
  ld1 t22 (World.drew w) fun t23 =>
  fa 6 t1 fun t25 =>
  ld1 t25 (World.drew w) fun t26 =>
  callG Try.prog 52 #[t8] (World.drew w) fun t9 w =>
  ld1 t25 w (fun u => u = t26) ∧
  ld1 t22 w (fun u => u = t23) ∧
  ld1 t19 w (fun u => u = t20) ∧
  ld1 t16 w (fun u => u = t17) ∧
  ld1 t13 w (fun u => u = t14) ∧
  ld1 t10 w (fun u => u = t11) ∧
  callG Try.prog 53 #[t11] w fun t12 w =>
  ld1 t25 w (fun u => u = t26) ∧
  ld1 t22 w (fun u => u = t23) ∧
  ld1 t19 w (fun u => u = t20) ∧
  ld1 t16 w (fun u => u = t17) ∧
  ld1 t13 w (fun u => u = t14) ∧
  callG Try.prog 53 #[t14] w fun t15 w =>
  ld1 t25 w (fun u => u = t26) ∧
  ld1 t22 w (fun u => u = t23) ∧
  ld1 t19 w (fun u => u = t20) ∧
  ld1 t16 w (fun u => u = t17) ∧
  callG Try.prog 53 #[t17] w fun t18 w =>
  ld1 t25 w (fun u => u = t26) ∧
  ld1 t22 w (fun u => u = t23) ∧
  ld1 t19 w (fun u => u = t20) ∧
  callG Try.prog 52 #[t20] w fun t21 w =>
  ld1 t25 w (fun u => u = t26) ∧
  ld1 t22 w (fun u => u = t23) ∧
  callG Try.prog 52 #[t23] w fun t24 w =>
  ld1 t25 w (fun u => u = t26) ∧
  callG Try.prog 52 #[t26] w fun t27 w =>
  bsl 79 3 7 (zc Try.prog 79) #[(0, t9), (1, t12), (2, t15), (3, t18), (4, t21), (5, t24), (6, t27)] w fun t28 w =>
  callG Try.prog 51 #[t28] w fun t29 w =>
  qG Try.prog (Instr.extract t29 0) w fun t30 =>
  qG Try.prog (Instr.extract t29 1) w fun t31 =>
  R (.tuple #[t30, t31]) w)

theorem ref06_Put_s0_eq (R : Value → World → Prop) : ∀ e w, lift Try.prog 32 (bodyOf Try.f16) (finK Try.prog Try.f16.results.toList R) e w = ref06_Put_s0 R (e 0) w := fun e w => by kernel_rfl

def ref06_Put (R : Value → World → Prop) (x0 : Value) (w : World) : Prop := ref06_Put_s0 R x0 w
theorem ref06_Put_call {R : Value → World → Prop} {x0 : Value} {w : World} (h : ref06_Put R x0 w) : callG Try.prog 16 #[x0] w R :=
  calls_lift_eq Try.mixed Try.func16 (args := [x0]) rfl rfl rfl rfl ((ref06_Put_s0_eq R) (envOf [x0]) w) (by kernel_rfl) h
/-! quayside/entry.Take -/
def entry_Take_s0 (R : Value → World → Prop) (x2 x4 : Value) (w : World) : Prop :=
  ia 3 x4 (.int .i64 0) fun t22 =>
  fa 1 t22 fun t23 =>
  ld1 t23 (World.drew w) fun t24 =>
  ia 3 x4 (.int .i64 1) fun t26 =>
  fa 2 t26 fun t27 =>
  ld1 t27 (World.drew w) fun t28 =>
  ia 3 x4 (.int .i64 2) fun t30 =>
  fa 2 t30 fun t31 =>
  ld1 t31 (World.drew w) fun t32 =>
  ia 3 x4 (.int .i64 3) fun t34 =>
  fa 2 t34 fun t35 =>
  ld1 t35 (World.drew w) fun t36 =>
  ia 3 x4 (.int .i64 4) fun t38 =>
  fa 1 t38 fun t39 =>
  ld1 t39 (World.drew w) fun t40 =>
  ia 3 x4 (.int .i64 5) fun t42 =>
  fa 1 t42 fun t43 =>
  ld1 t43 (World.drew w) fun t44 =>
  ia 3 x4 (.int .i64 6) fun t46 =>
  fa 1 t46 fun t47 =>
  ld1 t47 (World.drew w) fun t48 =>
  bld [(0, 1), (1, 1), (2, 1), (3, 1), (4, 1), (5, 1), (6, 1)] (zc Try.prog 23) #[(0, t24), (1, t28), (2, t32), (3, t36), (4, t40), (5, t44), (6, t48)] fun t49 =>
  newG (zc Try.prog 23) 23 (World.drew w) fun t6 w =>
  ld1 t47 w (fun u => u = t48) ∧
  ld1 t43 w (fun u => u = t44) ∧
  ld1 t39 w (fun u => u = t40) ∧
  ld1 t35 w (fun u => u = t36) ∧
  ld1 t31 w (fun u => u = t32) ∧
  ld1 t27 w (fun u => u = t28) ∧
  ld1 t23 w (fun u => u = t24) ∧
  stn 7 t6 t49 w fun w =>
  ldn 7 t6 w fun t50 =>
  callG Try.prog 17 #[t50] w fun t51 w =>
  qG Try.prog (bq .neq 26 (.tmp 51) (.const (.int .i64 0)) t51 (.int .i64 0)) w fun t52 =>
  bV t52
  (bld [(0, 1), (1, 1), (2, 1), (3, 1), (4, 1), (5, 1), (6, 1)] (zc Try.prog 23) #[] fun t53 =>
  stn 7 x2 t53 w fun w =>
  qG Try.prog (do loadVar 23 (← asAddr x2)) w fun r2 =>
  R (.tuple #[r2, (.int .i64 50)]) w)
  (ldn 7 t6 w fun t54 =>
  stn 7 x2 t54 w fun w =>
  qG Try.prog (do loadVar 23 (← asAddr x2)) w fun r2_1 =>
  R (.tuple #[r2_1, (.int .i64 0)]) w)

theorem entry_Take_s0_eq (R : Value → World → Prop) : ∀ e w, lift Try.prog 55 (sub (bodyOf Try.f19) [1, 1, 1]) (finK Try.prog Try.f19.results.toList R) e w = entry_Take_s0 R (e 2) (e 4) w := fun e w => by kernel_rfl

def entry_Take_s1 (R : Value → World → Prop) (x0 : Value) (w : World) : Prop :=
  newG (zc Try.prog 23) 23 w fun t2 w =>
  callG Try.prog 55 #[x0] w fun t9 w =>
  qG Try.prog (Instr.extract t9 0) w fun t10 =>
  qG Try.prog (Instr.extract t9 1) w fun t11 =>
  qG Try.prog (bq .neq 26 (.tmp 12) (.const (.int .i64 0)) t11 (.int .i64 0)) w fun t13 =>
  bV t13
  (bld [(0, 1), (1, 1), (2, 1), (3, 1), (4, 1), (5, 1), (6, 1)] (zc Try.prog 23) #[] fun t20 =>
  stn 7 t2 t20 w fun w =>
  qG Try.prog (do loadVar 23 (← asAddr t2)) w fun r2 =>
  R (.tuple #[r2, (.int .i64 50)]) w)
  (bsl 3 1 7 (zc Try.prog 3) #[(0, (.int .i64 1)), (1, (.int .i64 2)), (2, (.int .i64 2)), (3, (.int .i64 2)), (4, (.int .i64 1)), (5, (.int .i64 1)), (6, (.int .i64 1))] w fun t16 w =>
  callG Try.prog 56 #[t10, t16] w fun t17 w =>
  qG Try.prog (Op.unary .not t17) w fun t18 =>
  bV t18
  (bld [(0, 1), (1, 1), (2, 1), (3, 1), (4, 1), (5, 1), (6, 1)] (zc Try.prog 23) #[] fun t20_1 =>
  stn 7 t2 t20_1 w fun w =>
  qG Try.prog (do loadVar 23 (← asAddr t2)) w fun r2_1 =>
  R (.tuple #[r2_1, (.int .i64 50)]) w)
  (entry_Take_s0 R t2 t10 w))

theorem entry_Take_s1_eq (R : Value → World → Prop) : ∀ e w, lift Try.prog 55 (bodyOf Try.f19) (finK Try.prog Try.f19.results.toList R) e w = entry_Take_s1 R (e 0) w :=
  segs_eq (l := [(sub (bodyOf Try.f19) [0]), (sub (bodyOf Try.f19) [1, 0]), (sub (bodyOf Try.f19) [1, 1, 0])]) (y := (sub (bodyOf Try.f19) [1, 1, 1])) (Y := (fun e w => entry_Take_s0 R (e 2) (e 4) w)) (entry_Take_s0_eq R) (fun e w => by kernel_rfl)

def entry_Take (R : Value → World → Prop) (x0 : Value) (w : World) : Prop := entry_Take_s1 R x0 w
theorem entry_Take_call {R : Value → World → Prop} {x0 : Value} {w : World} (h : entry_Take R x0 w) : callG Try.prog 19 #[x0] w R :=
  calls_lift_eq Try.mixed Try.func19 (args := [x0]) rfl rfl rfl rfl ((entry_Take_s1_eq R) (envOf [x0]) w) (by kernel_rfl) h
/-! quayside/quaysideref06.Take -/
def ref06_Take_s0 (R : Value → World → Prop) (x2 x4 : Value) (w : World) : Prop :=
  ia 3 x4 (.int .i64 0) fun t21 =>
  fa 1 t21 fun t22 =>
  ld1 t22 (World.drew w) fun t23 =>
  ia 3 x4 (.int .i64 1) fun t25 =>
  fa 2 t25 fun t26 =>
  ld1 t26 (World.drew w) fun t27 =>
  ia 3 x4 (.int .i64 2) fun t29 =>
  fa 2 t29 fun t30 =>
  ld1 t30 (World.drew w) fun t31 =>
  ia 3 x4 (.int .i64 3) fun t33 =>
  fa 2 t33 fun t34 =>
  ld1 t34 (World.drew w) fun t35 =>
  ia 3 x4 (.int .i64 4) fun t37 =>
  fa 1 t37 fun t38 =>
  ld1 t38 (World.drew w) fun t39 =>
  ia 3 x4 (.int .i64 5) fun t41 =>
  fa 1 t41 fun t42 =>
  ld1 t42 (World.drew w) fun t43 =>
  ia 3 x4 (.int .i64 6) fun t45 =>
  fa 1 t45 fun t46 =>
  ld1 t46 (World.drew w) fun t47 =>
  bld [(0, 1), (1, 1), (2, 1), (3, 1), (4, 1), (5, 1), (6, 1)] (zc Try.prog 23) #[(0, t23), (1, t27), (2, t31), (3, t35), (4, t39), (5, t43), (6, t47)] fun t48 =>
  newG (zc Try.prog 23) 23 (World.drew w) fun t6 w =>
  ld1 t46 w (fun u => u = t47) ∧
  ld1 t42 w (fun u => u = t43) ∧
  ld1 t38 w (fun u => u = t39) ∧
  ld1 t34 w (fun u => u = t35) ∧
  ld1 t30 w (fun u => u = t31) ∧
  ld1 t26 w (fun u => u = t27) ∧
  ld1 t22 w (fun u => u = t23) ∧
  stn 7 t6 t48 w fun w =>
  ldn 7 t6 w fun t49 =>
  callG Try.prog 50 #[t49] w fun t50 w =>
  qG Try.prog (Op.unary .not t50) w fun t51 =>
  bV t51
  (bld [(0, 1), (1, 1), (2, 1), (3, 1), (4, 1), (5, 1), (6, 1)] (zc Try.prog 23) #[] fun t52 =>
  stn 7 x2 t52 w fun w =>
  qG Try.prog (do loadVar 23 (← asAddr x2)) w fun r2 =>
  R (.tuple #[r2, (.int .i64 50)]) w)
  (ldn 7 t6 w fun t53 =>
  stn 7 x2 t53 w fun w =>
  qG Try.prog (do loadVar 23 (← asAddr x2)) w fun r2_1 =>
  R (.tuple #[r2_1, (.int .i64 0)]) w)

theorem ref06_Take_s0_eq (R : Value → World → Prop) : ∀ e w, lift Try.prog 54 (sub (bodyOf Try.f20) [1, 1, 1]) (finK Try.prog Try.f20.results.toList R) e w = ref06_Take_s0 R (e 2) (e 4) w := fun e w => by kernel_rfl

def ref06_Take_s1 (R : Value → World → Prop) (x0 : Value) (w : World) : Prop :=
  newG (zc Try.prog 23) 23 w fun t2 w =>
  callG Try.prog 57 #[x0] w fun t9 w =>
  qG Try.prog (Instr.extract t9 0) w fun t10 =>
  qG Try.prog (Instr.extract t9 1) w fun t11 =>
  qG Try.prog (bq .neq 26 (.tmp 12) (.const (.int .i64 0)) t11 (.int .i64 0)) w fun t13 =>
  bV t13
  (bld [(0, 1), (1, 1), (2, 1), (3, 1), (4, 1), (5, 1), (6, 1)] (zc Try.prog 23) #[] fun t19 =>
  stn 7 t2 t19 w fun w =>
  qG Try.prog (do loadVar 23 (← asAddr t2)) w fun r2 =>
  R (.tuple #[r2, (.int .i64 50)]) w)
  (callG Try.prog 58 #[t10, (.string ⟨#[110, 116, 116, 116, 110, 110, 110]⟩)] w fun t16 w =>
  qG Try.prog (Op.unary .not t16) w fun t17 =>
  bV t17
  (bld [(0, 1), (1, 1), (2, 1), (3, 1), (4, 1), (5, 1), (6, 1)] (zc Try.prog 23) #[] fun t19_1 =>
  stn 7 t2 t19_1 w fun w =>
  qG Try.prog (do loadVar 23 (← asAddr t2)) w fun r2_1 =>
  R (.tuple #[r2_1, (.int .i64 50)]) w)
  (ref06_Take_s0 R t2 t10 w))

theorem ref06_Take_s1_eq (R : Value → World → Prop) : ∀ e w, lift Try.prog 54 (bodyOf Try.f20) (finK Try.prog Try.f20.results.toList R) e w = ref06_Take_s1 R (e 0) w :=
  segs_eq (l := [(sub (bodyOf Try.f20) [0]), (sub (bodyOf Try.f20) [1, 0]), (sub (bodyOf Try.f20) [1, 1, 0])]) (y := (sub (bodyOf Try.f20) [1, 1, 1])) (Y := (fun e w => ref06_Take_s0 R (e 2) (e 4) w)) (ref06_Take_s0_eq R) (fun e w => by kernel_rfl)

def ref06_Take (R : Value → World → Prop) (x0 : Value) (w : World) : Prop := ref06_Take_s1 R x0 w
theorem ref06_Take_call {R : Value → World → Prop} {x0 : Value} {w : World} (h : ref06_Take R x0 w) : callG Try.prog 20 #[x0] w R :=
  calls_lift_eq Try.mixed Try.func20 (args := [x0]) rfl rfl rfl rfl ((ref06_Take_s1_eq R) (envOf [x0]) w) (by kernel_rfl) h
end Go.Proofs

/- Plain: operations. -/
set_option linter.unusedVariables false
set_option linter.unusedSimpArgs false
namespace Go.Q
structure OpV where
  k : Int
  sku : List UInt8
  loc : List UInt8
  to : List UInt8
  q : Int
  id : Int
  due : Int
  deriving DecidableEq
def opC (o : OpV) : List Value := [.int .i64 o.k, .string (str o.sku), .string (str o.loc), .string (str o.to), .int .i64 o.q, .int .i64 o.id, .int .i64 o.due]
def nameOk (s : List UInt8) : Bool := decide (1 ≤ s.length ∧ s.length ≤ 64)
def OpV.ok (o : OpV) : Bool :=
  let names := nameOk o.sku && nameOk o.loc
  let none := decide (o.sku = [] ∧ o.loc = [])
  if o.k = 1 then names && decide (o.to = [] ∧ 1 ≤ o.q ∧ o.id = 0 ∧ o.due = 0)
  else if o.k = 2 then names && decide (o.to = [] ∧ 1 ≤ o.q ∧ o.id = 0 ∧ 0 ≤ o.due)
  else if o.k = 3 ∨ o.k = 4 then none && decide (o.to = [] ∧ o.q = 0 ∧ 1 ≤ o.id ∧ o.due = 0)
  else if o.k = 5 then none && decide (o.to = [] ∧ o.q = 0 ∧ o.id = 0 ∧ 0 ≤ o.due)
  else if o.k = 6 then names && nameOk o.to && decide (o.to ≠ o.loc ∧ 1 ≤ o.q ∧ o.id = 0 ∧ o.due = 0)
  else if o.k = 7 then names && decide (o.to = [] ∧ o.q ≠ 0 ∧ o.id = 0 ∧ o.due = 0)
  else false
/-- as the program asks it: what an operation may have besides is nought -/
def OpV.rest (o : OpV) : OpV :=
  if o.k = 1 ∨ o.k = 7 then ⟨o.k, o.sku, o.loc, [], o.q, 0, 0⟩
  else if o.k = 2 then ⟨o.k, o.sku, o.loc, [], o.q, 0, o.due⟩
  else if o.k = 3 ∨ o.k = 4 then ⟨o.k, [], [], [], 0, o.id, 0⟩
  else if o.k = 5 then ⟨o.k, [], [], [], 0, 0, o.due⟩
  else if o.k = 6 then ⟨o.k, o.sku, o.loc, o.to, o.q, 0, 0⟩
  else ⟨o.k, [], [], [], 0, 0, 0⟩
def OpV.may (o : OpV) (nm : Bool) : Bool :=
  if o.k = 1 then nm && decide (1 ≤ o.q)
  else if o.k = 2 then nm && decide (1 ≤ o.q ∧ 0 ≤ o.due)
  else if o.k = 3 ∨ o.k = 4 then decide (1 ≤ o.id)
  else if o.k = 5 then decide (0 ≤ o.due)
  else if o.k = 6 then nm && nameOk o.to && decide (o.to ≠ o.loc ∧ 1 ≤ o.q)
  else if o.k = 7 then nm && decide (o.q ≠ 0)
  else false
theorem OpV.ok_eq (o : OpV) : (o.may (nameOk o.sku && nameOk o.loc) && decide (o.rest = o)) = o.ok := by
  obtain ⟨k, sku, loc, to, q, id, due⟩ := o
  unfold OpV.may OpV.rest OpV.ok
  simp only
  generalize nameOk sku = a
  generalize nameOk loc = b
  generalize nameOk to = c
  have sym : ∀ {α : Type} (x y : α), (x = y) = (y = x) := fun x y => propext ⟨Eq.symm, Eq.symm⟩
  rw [Bool.eq_iff_iff]
  by_cases h1 : k = 1
  · simp [h1, sym [] to, sym 0 id, sym 0 due]; grind
  by_cases h2 : k = 2
  · simp [h2, sym [] to, sym 0 id]; grind
  by_cases h3 : k = 3 ∨ k = 4
  · have h7 : ¬ k = 7 := by omega
    simp [h1, h2, h3, h7]; grind
  by_cases h5 : k = 5
  · simp [h5]; grind
  by_cases h6 : k = 6
  · simp [h6]; grind
  by_cases h7 : k = 7
  · simp [h7]; grind
  · simp [h1, h2, h3, h5, h6, h7]
end Go.Q

/- Plain: kinds of a row; literals of several rows. -/
set_option linter.unusedVariables false
set_option linter.unusedSimpArgs false
namespace Go.Q
def kOk (k : Int) (v : V3) : Bool := (decide (v.k = k) || (decide (k = 0) && decide (v.k = 1 ∧ v.n ≠ 0))) && v.ok
def isK : List V3 → List Int → Bool
  | [], [] => true
  | v :: r, k :: ks => kOk k v && isK r ks
  | _, _ => false
theorem isK_len : ∀ {r : List V3} {ks : List Int}, isK r ks = true → r.length = ks.length := by
  intro r
  induction r with
  | nil => intro ks h; cases ks with
    | nil => rfl
    | cons k ks => cases h
  | cons v r ih => intro ks h; cases ks with
    | nil => cases h
    | cons k ks =>
      simp only [isK, Bool.and_eq_true] at h
      simp [ih h.2]
def intV (k : Int) : List Value := [.int .i64 k]
def strV (s : List UInt8) : List Value := [.string (str s)]
/-! ### literals of several rows -/
def partsFrom : Nat → List Value → List (Nat × Value)
  | _, [] => []
  | i, x :: r => (i, x) :: partsFrom (i + 1) r
theorem fill_rows {n : Nat} (hn : 0 < n) : ∀ (xs : List Value) (rows : List (List Value)) (i : Nat) (c : Array Value), xs.map Value.cells = rows.map List.toArray → (∀ y ∈ rows, y.length = n) → c.size = (i + xs.length) * n →
    Instr.fill (fun i => some (i * n, n)) c (partsFrom i xs) = some (c.toList.take (i * n) ++ rows.flatten).toArray := by
  intro xs
  induction xs with
  | nil =>
    intro rows i c h1 h2 h3
    have : rows = [] := by simpa using h1.symm
    subst this
    simp only [List.length_nil, Nat.add_zero] at h3
    have : c.toList.take (i * n) = c.toList := List.take_of_length_le (by simp [h3])
    simp [partsFrom, Instr.fill, this]
  | cons x xs ih =>
    intro rows i c h1 h2 h3
    cases rows with
    | nil => simp at h1
    | cons y rows =>
      simp only [List.map_cons, List.cons.injEq] at h1
      have hy := h2 y (by simp)
      simp only [List.length_cons] at h3
      have e1 : (i + (xs.length + 1)) * n = i * n + n + xs.length * n := by rw [Nat.add_mul, Nat.add_mul]; omega
      rw [e1] at h3
      unfold partsFrom
      rw [fill_step (off := i * n) (size := n) rfl (by rw [h1.1]; simpa using hy) (by omega), h1.1]
      have hsz : (splice c (i * n) y.toArray).size = (i + 1 + xs.length) * n := by
        rw [splice_size (by simp [hy]; omega), h3, Nat.add_mul, Nat.add_mul]; omega
      rw [ih rows (i + 1) _ h1.2 (fun z hz => h2 z (by simp [hz])) hsz]
      congr 2
      have e2 : (splice c (i * n) y.toArray).toList.take ((i + 1) * n) = c.toList.take (i * n) ++ y := by
        unfold splice
        have hl : (c.toList.take (i * n)).length = i * n := by rw [List.length_take]; simp; omega
        exact List.take_left' (by rw [List.length_append, hl, Nat.add_mul]; simp [hy])
      rw [e2]
      simp
/-- a literal of rows is a slice of the call's own -/
theorem bsl_rows {e n len : Nat} {z : Array Value} {xs : List Value} {rows : List (List Value)} (hn : 0 < n) (hl : xs.length = len) (hc : xs.map Value.cells = rows.map List.toArray) (hr : ∀ y ∈ rows, y.length = n) (hpos : 0 < len) {w : World} {K : Value → World → Prop}
    (hK : ∀ v' w', Fr w w' v' n rows → K v' w') : bsl e n len z (partsFrom 0 xs).toArray w K := by
  have hlen : rows.length = len := by have := congrArg List.length hc; simp at this; omega
  have hf := fill_rows hn xs rows 0 (rep z (len * n)) hc hr (by rw [rep_size, hl, Nat.zero_add])
  simp only [Nat.zero_mul, List.take_zero, List.nil_append] at hf
  unfold bsl
  have hf' : Instr.fill (fun i => some (i * n, n)) (rep z (len * n)) (partsFrom 0 xs).toArray.toList = some rows.flatten.toArray := hf
  rw [hf']
  refine hK _ _ ⟨⟨[w.heap.size], .inr ⟨w.heap.size, rows, e, by rw [hlen], rfl, heap_new, hr, List.take_length, Nat.le_refl _⟩, by simp⟩, kp_alloc⟩
end Go.Q

/- Layer 6: operations, and what a row must be: what each function does. -/
set_option linter.unusedVariables false
set_option linter.unusedSimpArgs false
namespace Go.Proofs
open Go Go.Q
theorem zcOp : zc Try.prog 23 = [.int .i64 0, .string ⟨#[]⟩, .string ⟨#[]⟩, .string ⟨#[]⟩, .int .i64 0, .int .i64 0, .int .i64 0].toArray := by kernel_rfl
theorem aggOpT : aggO Try.prog 23 = some true := by kernel_rfl
theorem szOpT : szO Try.prog 23 = some 7 := by kernel_rfl
theorem eqOp {k q i d k' q' i' d' : Int} {s l t s' l' t' : ByteArray} : aggEq Try.prog 23 [.int .i64 k, .string s, .string l, .string t, .int .i64 q, .int .i64 i, .int .i64 d] [.int .i64 k', .string s', .string l', .string t', .int .i64 q', .int .i64 i', .int .i64 d'] = true := by kernel_rfl
def opA (o : OpV) : Value := .agg #[.int .i64 o.k, .string (str o.sku), .string (str o.loc), .string (str o.to), .int .i64 o.q, .int .i64 o.id, .int .i64 o.due]
theorem le_cast (n m : Nat) : ((n : Int) ≤ (m : Int)) = (n ≤ m) := by apply propext; omega
theorem name_spec {w : World} (s : List UInt8) {K : Value → World → Prop} (hK : K (.bool (nameOk s)) w) : callG Try.prog 54 #[.string (str s)] w K := by
  refine entry_name_call ?_
  unfold nameOk at hK
  have e1 : ((1 : Int) ≤ (s.length : Int)) = (1 ≤ s.length) := by apply propext; omega
  by_cases h : 1 ≤ s.length
  · simpa [entry_name, entry_name_s0, e1, le64, h] using hK
  · simpa [entry_name, entry_name_s0, e1, le64, h] using hK
theorem Name_spec {w : World} (s : List UInt8) {K : Value → World → Prop} (hK : K (.bool (nameOk s)) w) : callG Try.prog 69 #[.string (str s)] w K := by
  refine ref06_Name_call ?_
  unfold nameOk at hK
  have e1 : ((1 : Int) ≤ (s.length : Int)) = (1 ≤ s.length) := by apply propext; omega
  by_cases h : 1 ≤ s.length
  · simpa [ref06_Name, ref06_Name_s0, e1, le64, h] using hK
  · simpa [ref06_Name, ref06_Name_s0, e1, le64, h] using hK
section
variable {w0 : World} {a b : Nat} {K : Value → World → Prop}
theorem check_s0 {w : World} {o r : OpV} (ha : w.heap[a]? = some (.cells #[.int .i64 o.k, .string (str o.sku), .string (str o.loc), .string (str o.to), .int .i64 o.q, .int .i64 o.id, .int .i64 o.due] 23))
    (hb : w.heap[b]? = some (.cells #[.int .i64 r.k, .string (str r.sku), .string (str r.loc), .string (str r.to), .int .i64 r.q, .int .i64 r.id, .int .i64 r.due] 23)) (hab : ¬ b = a) (hb0 : w0.heap.size ≤ b) (hk : Kp [] w0 w) (ok : Bool)
    (hK : ∀ w', Kp [] w0 w' → K (.int .i64 (if (ok && decide ({ r with k := o.k } = o)) = true then 0 else 1)) w') : entry_Check_s0 K (.pointer (some ⟨a, 0, none⟩)) (.pointer (some ⟨b, 0, none⟩)) (.bool ok) w := by
  unfold entry_Check_s0
  have lb := live_of hb
  have hkb : ∀ ob, Kp [] w0 (setBlk w b ob) := fun ob => hk.setBlk (.inr hb0) _
  have h := hK _ (hkb (.cells #[.int .i64 o.k, .string (str r.sku), .string (str r.loc), .string (str r.to), .int .i64 r.q, .int .i64 r.id, .int .i64 r.due] 23))
  obtain ⟨k, sku, loc, to, q, id, due⟩ := o
  obtain ⟨k', sku', loc', to', q', id', due'⟩ := r
  simp [-getElem?_pos, -Array.all_eq_true, -Array.getElem?_eq_getElem, -List.length_flatten, List.getElem?_cons_zero, List.getElem?_cons_succ, ha, hb, lb, heap_self lb, heap_ne hab, eqOp]
  simp only [OpV.mk.injEq, true_and] at h
  generalize setBlk w b _ = W at h ⊢
  by_cases c : sku' = sku ∧ loc' = loc ∧ to' = to ∧ q' = q ∧ id' = id ∧ due' = due
  · cases ok <;> simp_all
  · cases ok <;> simp_all
    grind
theorem check_s9 {w : World} {o : OpV} (ha : w.heap[a]? = some (.cells #[.int .i64 o.k, .string (str o.sku), .string (str o.loc), .string (str o.to), .int .i64 o.q, .int .i64 o.id, .int .i64 o.due] 23))
    (hb : w.heap[b]? = some (.cells #[.int .i64 0, .string (str []), .string (str []), .string (str []), .int .i64 0, .int .i64 0, .int .i64 0] 23)) (hab : ¬ b = a) (hb0 : w0.heap.size ≤ b) (hk : Kp [] w0 w) (nm : Bool)
    (hK : ∀ w', Kp [] w0 w' → K (.int .i64 (if (o.may nm && decide (o.rest = o)) = true then 0 else 1)) w') : entry_Check_s9 K (.pointer (some ⟨a, 0, none⟩)) (.pointer (some ⟨b, 0, none⟩)) (.bool nm) w := by
  have lb := live_of hb
  have hkb : ∀ ob, Kp [] w0 (setBlk w b ob) := fun ob => hk.setBlk (.inr hb0) _
  have hfin : ∀ (W : World) (r : OpV) (ok : Bool), W.heap[a]? = some (.cells #[.int .i64 o.k, .string (str o.sku), .string (str o.loc), .string (str o.to), .int .i64 o.q, .int .i64 o.id, .int .i64 o.due] 23) →
      W.heap[b]? = some (.cells #[.int .i64 r.k, .string (str r.sku), .string (str r.loc), .string (str r.to), .int .i64 r.q, .int .i64 r.id, .int .i64 r.due] 23) → Kp [] w0 W → { r with k := o.k } = o.rest → ok = o.may nm →
      entry_Check_s0 K (.pointer (some ⟨a, 0, none⟩)) (.pointer (some ⟨b, 0, none⟩)) (.bool ok) W := by
    intro W r ok h1 h2 h3 h4 h5
    refine check_s0 h1 h2 hab hb0 h3 ok fun w' hk' => ?_
    rw [h4, h5]
    exact hK w' hk'
  have hset : ∀ r : OpV, (setBlk w b (.cells #[.int .i64 r.k, .string (str r.sku), .string (str r.loc), .string (str r.to), .int .i64 r.q, .int .i64 r.id, .int .i64 r.due] 23)).heap[a]? = some (.cells #[.int .i64 o.k, .string (str o.sku), .string (str o.loc), .string (str o.to), .int .i64 o.q, .int .i64 o.id, .int .i64 o.due] 23) :=
    fun r => by rw [heap_ne hab]; exact ha
  have fin2 : ∀ (r : OpV) (ok : Bool), { r with k := o.k } = o.rest → ok = o.may nm → entry_Check_s0 K (.pointer (some ⟨a, 0, none⟩)) (.pointer (some ⟨b, 0, none⟩)) (.bool ok)
      (setBlk w b (.cells #[.int .i64 r.k, .string (str r.sku), .string (str r.loc), .string (str r.to), .int .i64 r.q, .int .i64 r.id, .int .i64 r.due] 23)) := fun r ok h1 h2 => hfin _ r ok (hset r) (heap_self lb) (hkb _) h1 h2
  clear hK
  obtain ⟨k, sku, loc, to, q, id, due⟩ := o
  unfold entry_Check_s9 entry_Check_s8 entry_Check_s7 entry_Check_s6 entry_Check_s5 entry_Check_s4 entry_Check_s3 entry_Check_s1 entry_Check_s2
  simp [-getElem?_pos, -Array.all_eq_true, -Array.getElem?_eq_getElem, -List.length_flatten, List.getElem?_cons_zero, List.getElem?_cons_succ, ha, hb, lb, heap_self lb, heap_ne hab, zcOp, str_nil, bld_done, bld_if, offAt, putAt]
  refine ⟨fun h1 => ?_, fun h1 => ⟨fun h2 => ?_, fun h2 => ?_⟩⟩
  · subst h1
    refine ⟨fun hn => fin2 ⟨0, sku, loc, [], q, 0, 0⟩ _ rfl (by simp [OpV.may, hn]), fun hn => fin2 ⟨0, sku, loc, [], q, 0, 0⟩ _ rfl (by simp [OpV.may, hn])⟩
  · subst h2
    refine ⟨fun hn => ⟨fun hq => fin2 ⟨0, sku, loc, [], q, 0, due⟩ _ rfl (by simp [OpV.may, hn, hq]), fun hq => fin2 ⟨0, sku, loc, [], q, 0, due⟩ _ rfl (by simp [OpV.may, hn]; omega)⟩, fun hn => fin2 ⟨0, sku, loc, [], q, 0, due⟩ _ rfl (by simp [OpV.may, hn])⟩
  · refine ⟨fun h3 => ?_, fun h3 => ⟨fun h4 => ?_, fun h4 => ⟨fun h5 => ?_, fun h5 => ⟨fun h6 => ?_, fun h6 => ⟨fun h7 => ?_, fun h7 => ?_⟩⟩⟩⟩⟩
    · subst h3
      exact fin2 ⟨0, [], [], [], 0, id, 0⟩ _ rfl rfl
    · subst h4
      exact fin2 ⟨0, [], [], [], 0, id, 0⟩ _ rfl rfl
    · subst h5
      exact fin2 ⟨0, [], [], [], 0, 0, due⟩ _ rfl rfl
    · subst h6
      refine ⟨fun hn => name_spec to ?_, fun hn => fin2 ⟨0, sku, loc, to, q, 0, 0⟩ _ rfl (by simp [OpV.may, hn])⟩
      have hs := hset ⟨0, sku, loc, to, q, 0, 0⟩
      simp only at hs
      simp [-getElem?_pos, -Array.all_eq_true, -Array.getElem?_eq_getElem, -List.length_flatten, List.getElem?_cons_zero, List.getElem?_cons_succ, hs]
      refine ⟨fun ht => ⟨fun hne => fin2 ⟨0, sku, loc, to, q, 0, 0⟩ _ rfl (by simp [OpV.may, hn, ht, hne]), fun he => fin2 ⟨0, sku, loc, to, q, 0, 0⟩ _ rfl (by simp [OpV.may, hn, ht, he])⟩, fun ht => fin2 ⟨0, sku, loc, to, q, 0, 0⟩ _ rfl (by simp [OpV.may, hn, ht])⟩
    · subst h7
      refine ⟨fun hn => fin2 ⟨0, sku, loc, [], q, 0, 0⟩ _ rfl (by simp [OpV.may, hn]), fun hn => fin2 ⟨0, sku, loc, [], q, 0, 0⟩ _ rfl (by simp [OpV.may, hn])⟩
    · have := hfin w ⟨0, [], [], [], 0, 0, 0⟩ false ha hb hk (by simp [OpV.rest, h1, h2, h3, h4, h5, h6, h7]) (by simp [OpV.may, h1, h2, h3, h4, h5, h6, h7])
      exact this
end
theorem CheckOp_spec {w : World} (o : OpV) {K : Value → World → Prop} (hK : ∀ w', Kp [] w w' → K (.int .i64 (if o.ok = true then 0 else 1)) w') : callG Try.prog 17 #[opA o] w K := by
  refine entry_Check_call ?_
  unfold opA
  simp only [entry_Check, entry_Check_s10, newG_k, cells_agg, zcOp, str_nil]
  obtain ⟨w1, hw1⟩ := ex_w (w' := w.alloc (.cells #[.int .i64 o.k, .string (str o.sku), .string (str o.loc), .string (str o.to), .int .i64 o.q, .int .i64 o.id, .int .i64 o.due] 23))
  have hk1 : Kp [] w w1 := by rw [hw1]; exact kp_alloc
  have ha1 : w1.heap[w.heap.size]? = some (.cells #[.int .i64 o.k, .string (str o.sku), .string (str o.loc), .string (str o.to), .int .i64 o.q, .int .i64 o.id, .int .i64 o.due] 23) := by rw [hw1]; exact heap_new
  have hs1 : w1.heap.size = w.heap.size + 1 := by rw [hw1]; simp
  rw [← hw1]
  obtain ⟨w2, hw2⟩ := ex_w (w' := w1.alloc (.cells #[.int .i64 0, .string (str []), .string (str []), .string (str []), .int .i64 0, .int .i64 0, .int .i64 0] 23))
  have hk2 : Kp [] w1 w2 := by rw [hw2]; exact kp_alloc
  have hb2 : w2.heap[w1.heap.size]? = some (.cells #[.int .i64 0, .string (str []), .string (str []), .string (str []), .int .i64 0, .int .i64 0, .int .i64 0] 23) := by rw [hw2]; exact heap_new
  have ha2 := hk2.get ha1 (by simp)
  rw [← hw2]
  simp [-getElem?_pos, -Array.all_eq_true, -Array.getElem?_eq_getElem, -List.length_flatten, List.getElem?_cons_zero, List.getElem?_cons_succ, ha2]
  refine name_spec o.sku ?_
  have fin : ∀ nm, nm = (nameOk o.sku && nameOk o.loc) → entry_Check_s9 K (.pointer (some ⟨w.heap.size, 0, none⟩)) (.pointer (some ⟨w1.heap.size, 0, none⟩)) (.bool nm) w2 := by
    intro nm hnm
    refine check_s9 (w0 := w) ha2 hb2 (by omega) (by omega) (hk1.trans' hk2) nm fun w' hk' => ?_
    rw [hnm, OpV.ok_eq]
    exact hK w' hk'
  simp [-getElem?_pos, -Array.all_eq_true, -Array.getElem?_eq_getElem, -List.length_flatten, List.getElem?_cons_zero, List.getElem?_cons_succ, ha2]
  refine ⟨fun h => name_spec o.loc (fin _ (by rw [h]; rfl)), fun h => fin _ (by rw [h]; rfl)⟩
theorem MayOp_spec {w : World} (o : OpV) {K : Value → World → Prop} (hK : ∀ w', Kp [] w w' → K (.bool o.ok) w') : callG Try.prog 50 #[opA o] w K := by
  refine ref06_May_call ?_
  unfold opA
  simp only [ref06_May, ref06_May_s11, newG_k, cells_agg]
  obtain ⟨w1, hw1⟩ := ex_w (w' := w.alloc (.cells #[.int .i64 o.k, .string (str o.sku), .string (str o.loc), .string (str o.to), .int .i64 o.q, .int .i64 o.id, .int .i64 o.due] 23))
  have hk1 : Kp [] w w1 := by rw [hw1]; exact kp_alloc
  have ha1 : w1.heap[w.heap.size]? = some (.cells #[.int .i64 o.k, .string (str o.sku), .string (str o.loc), .string (str o.to), .int .i64 o.q, .int .i64 o.id, .int .i64 o.due] 23) := by rw [hw1]; exact heap_new
  rw [← hw1]
  have hK := hK w1 hk1
  have fin : ∀ nm none, nm = (nameOk o.sku && nameOk o.loc) → none = decide (o.sku = [] ∧ o.loc = []) → ref06_May_s9 K (.pointer (some ⟨w.heap.size, 0, Option.none⟩)) (.bool nm) (.bool none) w1 := by
    intro nm none h1 h2
    unfold OpV.ok at hK
    simp only [← h1, ← h2] at hK
    clear h1 h2
    obtain ⟨k, sku, loc, to, q, id, due⟩ := o
    unfold ref06_May_s9 ref06_May_s8 ref06_May_s7 ref06_May_s6 ref06_May_s5 ref06_May_s4 ref06_May_s3 ref06_May_s2 ref06_May_s1 ref06_May_s0
    simp [-getElem?_pos, -Array.all_eq_true, -Array.getElem?_eq_getElem, -List.length_flatten, List.getElem?_cons_zero, List.getElem?_cons_succ, ha1, str_nil]
    simp only at hK
    have key : ∀ b, b = nameOk to → callG Try.prog 69 #[.string (str to)] w1 fun t w => t = .bool b ∧ w = w1 := fun b hb => Name_spec to ⟨by rw [hb], rfl⟩
    by_cases h1 : k = 1
    · cases nm <;> simp_all <;> grind
    by_cases h2 : k = 2
    · cases nm <;> simp_all <;> grind
    by_cases h3 : k = 3
    · cases none <;> simp_all <;> grind
    by_cases h4 : k = 4
    · cases none <;> simp_all <;> grind
    by_cases h5 : k = 5
    · cases none <;> simp_all <;> grind
    by_cases h6 : k = 6
    · subst h6
      simp at hK ⊢
      refine ⟨fun hn => Name_spec to ?_, fun hn => by simp_all⟩
      simp [-getElem?_pos, -Array.all_eq_true, -Array.getElem?_eq_getElem, -List.length_flatten, List.getElem?_cons_zero, List.getElem?_cons_succ, ha1]
      simp_all
      grind
    by_cases h7 : k = 7
    · cases nm <;> simp_all <;> grind
    simp_all
  simp [-getElem?_pos, -Array.all_eq_true, -Array.getElem?_eq_getElem, -List.length_flatten, List.getElem?_cons_zero, List.getElem?_cons_succ, ha1]
  refine Name_spec o.sku ?_
  have fin2 : ∀ nm, nm = (nameOk o.sku && nameOk o.loc) → ref06_May_s10 K (.pointer (some ⟨w.heap.size, 0, Option.none⟩)) (.bool nm) w1 := by
    intro nm h
    unfold ref06_May_s10
    simp [-getElem?_pos, -Array.all_eq_true, -Array.getElem?_eq_getElem, -List.length_flatten, List.getElem?_cons_zero, List.getElem?_cons_succ, ha1, str_nil]
    refine ⟨fun hs => fin _ _ h (by simp [hs]), fun hs => fin _ _ h (by simp [hs])⟩
  simp [-getElem?_pos, -Array.all_eq_true, -Array.getElem?_eq_getElem, -List.length_flatten, List.getElem?_cons_zero, List.getElem?_cons_succ, ha1]
  refine ⟨fun h => Name_spec o.loc (fin2 _ (by rw [h]; rfl)), fun h => fin2 _ (by rw [h]; rfl)⟩
theorem refCheckOp_spec {w : World} (o : OpV) {K : Value → World → Prop} (hK : ∀ w', Kp [] w w' → K (.int .i64 (if o.ok = true then 0 else 1)) w') : callG Try.prog 18 #[opA o] w K := by
  refine ref06_Check_call ?_
  unfold opA
  simp only [ref06_Check, ref06_Check_s0]
  simp [-getElem?_pos, -Array.all_eq_true, -Array.getElem?_eq_getElem, -List.length_flatten, List.getElem?_cons_zero, List.getElem?_cons_succ, heap_new]
  refine MayOp_spec o fun w' hk => ?_
  have := hK w' (kp_alloc.trans' hk)
  cases h : o.ok <;> simp_all
end Go.Proofs

/- Plain: operations as rows, and back. -/
set_option linter.unusedVariables false
set_option linter.unusedSimpArgs false
namespace Go.Q
def numV (n : Int) : V3 := ⟨1, n, []⟩
def textV (s : List UInt8) : V3 := ⟨2, 0, s⟩
def someV (n : Int) : V3 := if n = 0 then ⟨0, 0, []⟩ else numV n
def opRow (o : OpV) : List V3 := [numV o.k, textV o.sku, textV o.loc, textV o.to, numV o.q, numV o.id, numV o.due]
def rowOp (r : List V3) : OpV := ⟨(r.getD 0 ⟨0, 0, []⟩).n, (r.getD 1 ⟨0, 0, []⟩).s, (r.getD 2 ⟨0, 0, []⟩).s, (r.getD 3 ⟨0, 0, []⟩).s, (r.getD 4 ⟨0, 0, []⟩).n, (r.getD 5 ⟨0, 0, []⟩).n, (r.getD 6 ⟨0, 0, []⟩).n⟩
def opKinds : List Int := [1, 2, 2, 2, 1, 1, 1]
def opZ : OpV := ⟨0, [], [], [], 0, 0, 0⟩
def putOp (o : OpV) : List UInt8 × Int := if o.ok = true then putRow (opRow o) else ([], 1)
def takeOp (s : List UInt8) : OpV × Int := if (takeRow s).2 = 0 ∧ isK (takeRow s).1 opKinds = true ∧ (rowOp (takeRow s).1).ok = true then (rowOp (takeRow s).1, 0) else (opZ, 50)
structure OpV.Wf (o : OpV) : Prop where
  k0 : -9223372036854775808 ≤ o.k
  k1 : o.k < 9223372036854775808
  q0 : -9223372036854775808 ≤ o.q
  q1 : o.q < 9223372036854775808
  i0 : -9223372036854775808 ≤ o.id
  i1 : o.id < 9223372036854775808
  d0 : -9223372036854775808 ≤ o.due
  d1 : o.due < 9223372036854775808
theorem num_wf {n : Int} (h0 : -9223372036854775808 ≤ n) (h1 : n < 9223372036854775808) : (numV n).Wf := ⟨by simp [numV], by simp [numV], h0, h1, by simp [numV]⟩
theorem text_wf {s : List UInt8} (h : s.length < 2 ^ 39) : (textV s).Wf := ⟨by simp [textV], by simp [textV], by simp [textV], by simp [textV], h⟩
theorem num_ok (n : Int) : (numV n).ok = true := rfl
theorem text_ok {s : List UInt8} (h : s.length ≤ 64) : (textV s).ok = true := by simp [textV, V3.ok, h]
theorem OpV.ok_len {o : OpV} (h : o.ok = true) : o.sku.length ≤ 64 ∧ o.loc.length ≤ 64 ∧ o.to.length ≤ 64 := by
  obtain ⟨k, sku, loc, to, q, id, due⟩ := o
  unfold OpV.ok nameOk at h
  simp only at h ⊢
  have hl : ∀ l : List UInt8, l = [] → l.length ≤ 64 := fun l h => by rw [h]; simp
  by_cases h1 : k = 1
  · simp [h1] at h; have := hl to h.2.1; omega
  by_cases h2 : k = 2
  · simp [h2] at h; have := hl to h.2.1; omega
  by_cases h3 : k = 3 ∨ k = 4
  · simp [h1, h2, h3] at h; have := hl to h.2.1; have := hl sku h.1.1; have := hl loc h.1.2; omega
  by_cases h5 : k = 5
  · simp [h5] at h; have := hl to h.2.1; have := hl sku h.1.1; have := hl loc h.1.2; omega
  by_cases h6 : k = 6
  · simp [h6] at h; omega
  by_cases h7 : k = 7
  · simp [h7] at h; have := hl to h.2.1; omega
  · simp [h1, h2, h3, h5, h6, h7] at h
theorem opRow_ok {o : OpV} (h : o.ok = true) : (opRow o).all V3.ok = true := by
  obtain ⟨h1, h2, h3⟩ := o.ok_len h
  simp [opRow, num_ok, text_ok h1, text_ok h2, text_ok h3]
theorem opRow_wf {o : OpV} (h : o.ok = true) (hw : o.Wf) : ∀ v ∈ opRow o, v.Wf := by
  obtain ⟨h1, h2, h3⟩ := o.ok_len h
  intro v hv
  simp only [opRow, List.mem_cons, List.not_mem_nil, or_false] at hv
  rcases hv with rfl | rfl | rfl | rfl | rfl | rfl | rfl
  · exact num_wf hw.k0 hw.k1
  · exact text_wf (by omega)
  · exact text_wf (by omega)
  · exact text_wf (by omega)
  · exact num_wf hw.q0 hw.q1
  · exact num_wf hw.i0 hw.i1
  · exact num_wf hw.d0 hw.d1
theorem kind_num {v : V3} (h : kOk 1 v = true) : v = numV v.n := by
  obtain ⟨k, n, s⟩ := v
  simp [kOk] at h
  obtain ⟨rfl, h⟩ := h
  simp [V3.ok] at h
  subst h; rfl
theorem kind_text {v : V3} (h : kOk 2 v = true) : v = textV v.s := by
  obtain ⟨k, n, s⟩ := v
  simp [kOk] at h
  obtain ⟨rfl, h⟩ := h
  simp [V3.ok] at h
  obtain ⟨rfl, _⟩ := h; rfl
theorem kind_some {v : V3} (h : kOk 0 v = true) : v = someV v.n := by
  obtain ⟨k, n, s⟩ := v
  simp [kOk] at h
  obtain ⟨h1, h⟩ := h
  rcases h1 with rfl | ⟨rfl, h1⟩
  · simp [V3.ok] at h
    obtain ⟨rfl, rfl⟩ := h; rfl
  · simp [V3.ok] at h
    subst h
    simp [someV, h1, numV]
theorem num_kind (n : Int) : kOk 1 (numV n) = true := by simp [kOk, numV, V3.ok]
theorem text_kind (s : List UInt8) : kOk 2 (textV s) = decide (s.length ≤ 64) := by simp [kOk, textV, V3.ok]
theorem some_kind (n : Int) : kOk 0 (someV n) = true := by
  unfold someV
  split
  · rfl
  · rename_i h; simp [kOk, numV, V3.ok, h]
theorem list7 {α : Type} {r : List α} (h : r.length = 7) : ∃ a b c d e f g, r = [a, b, c, d, e, f, g] := by
  match r, h with
  | [a, b, c, d, e, f, g], _ => exact ⟨a, b, c, d, e, f, g, rfl⟩
theorem list6 {α : Type} {r : List α} (h : r.length = 6) : ∃ a b c d e f, r = [a, b, c, d, e, f] := by
  match r, h with
  | [a, b, c, d, e, f], _ => exact ⟨a, b, c, d, e, f, rfl⟩
theorem list4 {α : Type} {r : List α} (h : r.length = 4) : ∃ a b c d, r = [a, b, c, d] := by
  match r, h with
  | [a, b, c, d], _ => exact ⟨a, b, c, d, rfl⟩
theorem opRow_rowOp {r : List V3} (h : isK r opKinds = true) : opRow (rowOp r) = r := by
  obtain ⟨a, b, c, d, e, f, g, rfl⟩ := list7 (isK_len h)
  simp only [opKinds, isK, Bool.and_eq_true] at h
  obtain ⟨h1, h2, h3, h4, h5, h6, h7, _⟩ := h
  simp only [opRow, rowOp, List.getD_cons_zero, List.getD_cons_succ]
  rw [← kind_num h1, ← kind_text h2, ← kind_text h3, ← kind_text h4, ← kind_num h5, ← kind_num h6, ← kind_num h7]
theorem isK_opRow {o : OpV} (h : o.ok = true) : isK (opRow o) opKinds = true := by
  obtain ⟨h1, h2, h3⟩ := o.ok_len h
  simp [opRow, opKinds, isK, num_kind, text_kind, h1, h2, h3]
theorem rowOp_opRow (o : OpV) : rowOp (opRow o) = o := rfl
theorem putOp_ok {o : OpV} (h : o.ok = true) : putOp o = (bOf 7 :: rowB (opRow o), 0) := by
  unfold putOp putRow
  rw [if_pos h, if_pos ⟨by simp [opRow], opRow_ok h⟩]; rfl
theorem take_putOp {o : OpV} (h : o.ok = true) (hw : o.Wf) : takeOp (putOp o).1 = (o, 0) := by
  have ht := takeRow_put (opRow_ok h) (by simp [opRow]) (opRow_wf h hw)
  rw [putOp_ok h]
  have ht' : takeRow (bOf 7 :: rowB (opRow o)) = (opRow o, 0) := ht
  unfold takeOp
  simp only [ht']
  rw [if_pos ⟨trivial, isK_opRow h, by rw [rowOp_opRow]; exact h⟩]; rfl
theorem put_takeOp {s : List UInt8} (h : (takeOp s).2 = 0) : putOp (takeOp s).1 = (s, 0) ∧ (takeOp s).1.ok = true ∧ (takeOp s).1.Wf := by
  unfold takeOp at h ⊢
  split at h
  · rename_i hc
    rw [if_pos hc]
    obtain ⟨h1, h2, h3⟩ := hc
    have hr : takeRow s = ((takeRow s).1, 0) := by rw [← h1]
    obtain ⟨p1, p2⟩ := putRow_take hr
    refine ⟨?_, h3, ?_⟩
    · unfold putOp
      rw [if_pos h3, opRow_rowOp h2, p1]
    · obtain ⟨a, b, c, d, e, f, g, he⟩ := list7 (isK_len h2)
      rw [he] at p2 ⊢
      have w0 := p2 a (by simp)
      have w4 := p2 e (by simp)
      have w5 := p2 f (by simp)
      have w6 := p2 g (by simp)
      exact ⟨w0.n0, w0.n1, w4.n0, w4.n1, w5.n0, w5.n1, w6.n0, w6.n1⟩
  · simp at h
theorem putRow_len {r : List V3} (hl : r.length ≤ 255) : (putRow r).1.length ≤ 20000 := by
  unfold putRow
  split
  · rename_i h
    have := rowB_len h.2
    simp; omega
  · simp
end Go.Q

/- Layer 6: operations as bytes, and back: what each function does. -/
set_option linter.unusedVariables false
set_option linter.unusedSimpArgs false
namespace Go.Proofs
open Go Go.Q
def valA (v : V3) : Value := .agg #[.int .i64 v.k, .int .i64 v.n, .string (str v.s)]
theorem live_new {w : World} {o : Obj} : Live (w.alloc o) w.heap.size := by unfold Live; simp
theorem num_spec {w : World} (n : Int) {K : Value → World → Prop} (hK : ∀ w', Kp [] w w' → K (valA (numV n)) w') : callG Try.prog 48 #[.int .i64 n] w K := by
  refine entry_num_call ?_
  simp [-getElem?_pos, -Array.all_eq_true, -Array.getElem?_eq_getElem, -List.length_flatten, List.getElem?_cons_zero, List.getElem?_cons_succ, entry_num, entry_num_s0, heap_new, zcVl, bld_done, bld_if, offAt, putAt]
  rw [loadVar_of aggValT szValT heap_new rfl]
  exact hK _ kp_alloc
theorem text_spec {w : World} (s : List UInt8) {K : Value → World → Prop} (hK : ∀ w', Kp [] w w' → K (valA (textV s)) w') : callG Try.prog 49 #[.string (str s)] w K := by
  refine entry_text_call ?_
  simp [-getElem?_pos, -Array.all_eq_true, -Array.getElem?_eq_getElem, -List.length_flatten, List.getElem?_cons_zero, List.getElem?_cons_succ, entry_text, entry_text_s0, heap_new, zcVl, bld_done, bld_if, offAt, putAt]
  rw [loadVar_of aggValT szValT heap_new rfl]
  exact hK _ kp_alloc
theorem refNum_spec {w : World} (n : Int) {K : Value → World → Prop} (hK : ∀ w', Kp [] w w' → K (valA (numV n)) w') : callG Try.prog 52 #[.int .i64 n] w K := by
  refine ref06_num_call ?_
  simp [-getElem?_pos, -Array.all_eq_true, -Array.getElem?_eq_getElem, -List.length_flatten, List.getElem?_cons_zero, List.getElem?_cons_succ, ref06_num, ref06_num_s0, heap_new, zcVl, bld_done, bld_if, offAt, putAt]
  rw [loadVar_of aggValT szValT heap_new rfl]
  exact hK _ kp_alloc
theorem refText_spec {w : World} (s : List UInt8) {K : Value → World → Prop} (hK : ∀ w', Kp [] w w' → K (valA (textV s)) w') : callG Try.prog 53 #[.string (str s)] w K := by
  refine ref06_text_call ?_
  simp [-getElem?_pos, -Array.all_eq_true, -Array.getElem?_eq_getElem, -List.length_flatten, List.getElem?_cons_zero, List.getElem?_cons_succ, ref06_text, ref06_text_s0, heap_new, zcVl, bld_done, bld_if, offAt, putAt]
  rw [loadVar_of aggValT szValT heap_new rfl]
  exact hK _ kp_alloc
theorem some_spec {w : World} (n : Int) {K : Value → World → Prop} (hK : ∀ w', Kp [] w w' → K (valA (someV n)) w') : callG Try.prog 62 #[.int .i64 n] w K := by
  refine entry_some_call ?_
  simp [-getElem?_pos, -Array.all_eq_true, -Array.getElem?_eq_getElem, -List.length_flatten, List.getElem?_cons_zero, List.getElem?_cons_succ, entry_some, entry_some_s0, heap_new, zcVl, bld_done, bld_if, offAt, putAt, str_nil]
  refine ⟨fun h => ?_, fun h => ?_⟩
  · rw [loadVar_of aggValT szValT heap_new rfl]
    have := hK _ (kp_alloc (w := w) (o := .cells #[.int .i64 0, .int .i64 0, .string (str [])] 79))
    simpa [someV, h, valA] using this
  · refine num_spec n fun w' hk => ?_
    have hb := hk.get (heap_new (w := w) (o := .cells #[.int .i64 0, .int .i64 0, .string (str [])] 79)) (by simp)
    have lb := live_of hb
    simp [-getElem?_pos, -Array.all_eq_true, -Array.getElem?_eq_getElem, -List.length_flatten, List.getElem?_cons_zero, List.getElem?_cons_succ, valA, numV, hb, lvV, lb]
    have := hK _ ((kp_alloc.trans' hk).setBlk (.inr (Nat.le_refl _)) (.cells #[.int .i64 1, .int .i64 n, .string (str [])] 79))
    simpa [someV, h, valA, numV] using this
theorem refSome_spec {w : World} (n : Int) {K : Value → World → Prop} (hK : ∀ w', Kp [] w w' → K (valA (someV n)) w') : callG Try.prog 63 #[.int .i64 n] w K := by
  refine ref06_some_call ?_
  simp [-getElem?_pos, -Array.all_eq_true, -Array.getElem?_eq_getElem, -List.length_flatten, List.getElem?_cons_zero, List.getElem?_cons_succ, ref06_some, ref06_some_s0, heap_new, zcVl, bld_done, bld_if, offAt, putAt, str_nil]
  refine ⟨fun h => ?_, fun h => ?_⟩
  · rw [loadVar_of aggValT szValT heap_new rfl]
    have := hK _ (kp_alloc (w := w) (o := .cells #[.int .i64 0, .int .i64 0, .string (str [])] 79))
    simpa [someV, h, valA] using this
  · refine refNum_spec n fun w' hk => ?_
    have hb := hk.get (heap_new (w := w) (o := .cells #[.int .i64 0, .int .i64 0, .string (str [])] 79)) (by simp)
    have lb := live_of hb
    simp [-getElem?_pos, -Array.all_eq_true, -Array.getElem?_eq_getElem, -List.length_flatten, List.getElem?_cons_zero, List.getElem?_cons_succ, valA, numV, hb, lvV, lb]
    have := hK _ ((kp_alloc.trans' hk).setBlk (.inr (Nat.le_refl _)) (.cells #[.int .i64 1, .int .i64 n, .string (str [])] 79))
    simpa [someV, h, valA, numV] using this
theorem row_spec {w : World} {v : Value} {K : Value → World → Prop} (hK : K v w) : callG Try.prog 47 #[v] w K := entry_row_call hK
theorem isK_drop {r : List V3} {ks : List Int} (hl : r.length = ks.length) {i : Nat} (hi : i < r.length) : isK (r.drop i) (ks.drop i) = (kOk (ks[i]'(by omega)) r[i] && isK (r.drop (i + 1)) (ks.drop (i + 1))) := by
  rw [List.drop_eq_getElem_cons hi, List.drop_eq_getElem_cons (by omega : i < ks.length)]; rfl
theorem isK_bad {r : List V3} {ks : List Int} (hl : r.length ≠ ks.length) : isK r ks = false := by
  cases h : isK r ks with
  | false => rfl
  | true => exact absurd (isK_len h) hl
theorem rd_int {w : World} {v : Value} {ks : List Int} (h : Rd w v 1 (ks.map intV)) {i : Nat} (hi : i < ks.length) : ∃ bl o c T fr, w.heap[bl]? = some (.cells c T fr) ∧ (∀ kd K, ia 1 v (.int kd i) K = K (.pointer (some ⟨bl, o, none⟩))) ∧ c[o]? = some (.int .i64 ks[i]) := by
  obtain ⟨bl, o, T, c, fr, h1, h2, h3, h4, h5⟩ := h.at (i := i) (by simpa using hi)
  refine ⟨bl, o, c, T, fr, h1, h2, ?_⟩
  have := h5 0 (by omega)
  simpa [intV] using this
theorem rd_cells {w : World} {v : Value} {r : List V3} (h : Rd w v 3 (r.map valV)) {i : Nat} (hi : i < r.length) :
    ∃ bl o c T fr, w.heap[bl]? = some (.cells c T fr) ∧ (∀ kd K, ia 3 v (.int kd i) K = K (.pointer (some ⟨bl, o, none⟩))) ∧ c[o]? = some (.int .i64 r[i].k) ∧ c[o + 1]? = some (.int .i64 r[i].n) ∧ c[o + 2]? = some (.string (str r[i].s)) := by
  obtain ⟨bl, o, T, c, fr, h1, h2, h3, h4, h5⟩ := h.at (i := i) (by simpa using hi)
  have g0 := h5 0 (by omega)
  have g1 := h5 1 (by omega)
  have g2 := h5 2 (by omega)
  exact ⟨bl, o, c, T, fr, h1, h2, by simpa [valV] using g0, by simpa [valV] using g1, by simpa [valV] using g2⟩
theorem is_spec {w : World} {rv kv : Value} {r : List V3} {ks : List Int} (hr : Rd w rv 3 (r.map valV)) (hk : Rd w kv 1 (ks.map intV)) (hl : r.length < 2 ^ 40) {K : Value → World → Prop}
    (hK : ∀ w', Kp [] w w' → K (.bool (isK r ks)) w') : callG Try.prog 56 #[rv, kv] w K := by
  refine entry_is_call ?_
  simp only [entry_is, entry_is_s7, hr.lenL, hk.lenL, List.length_map, bq_neq, bV_b]
  refine ⟨fun h => ?_, fun h => ?_⟩
  · have := hK w (Kp.refl _ _)
    rw [isK_bad (by intro he; simp [he] at h)] at this
    exact this
  have hlen : r.length = ks.length := by simp at h; omega
  simp only [entry_is_s6, hr.lenL, List.length_map]
  unfold entry_is_L5
  refine loop_inv (fun m xs wi => ∃ i, i ≤ r.length ∧ m = r.length - i ∧ xs = [kv, rv, .int .i64 r.length, .int .i64 (i : Nat)] ∧ Kp [] w wi ∧ isK r ks = isK (r.drop i) (ks.drop i)) ?_ (m := r.length) ⟨0, by omega, rfl, rfl, Kp.refl _ _, rfl⟩
  rintro m N xs wi ⟨i, hi, rfl, rfl, hki, he⟩ hN
  simp only [entry_is_L5F, entry_is_s4, bq_lss, bV_b]
  refine ⟨fun hlt => ?_, fun hge => ?_⟩
  · have hi : i < r.length := by simpa using hlt
    have hik : i < ks.length := by omega
    have hiw : IntKind.i64.wrap ((i : Int) + 1) = ((i + 1 : Nat) : Int) := by rw [w64 (by omega) (by omega)]; simp
    rw [isK_drop hlen hi] at he
    obtain ⟨p, hp1, hp2⟩ := rd_val (hr.keep hki) hi
    obtain ⟨w1, hw1⟩ := ex_w (w' := wi.alloc (.cells #[.int .i64 r[i].k, .int .i64 r[i].n, .string (str r[i].s)] 79))
    have hk1 : Kp [] wi w1 := by rw [hw1]; exact kp_alloc
    have hb1 : w1.heap[wi.heap.size]? = some (.cells #[.int .i64 r[i].k, .int .i64 r[i].n, .string (str r[i].s)] 79) := by rw [hw1]; exact heap_new
    have hkw := hki.trans' hk1
    obtain ⟨bl, o, c, T, fr, hh, hia, hc⟩ := rd_int (hk.keep hkw) hik
    unfold entry_is_s3
    simp [-getElem?_pos, -Array.all_eq_true, -Array.getElem?_eq_getElem, -List.length_flatten, List.getElem?_cons_zero, List.getElem?_cons_succ, hp1, hp2, heap_new, zcVl]
    rw [← hw1]
    have step : ∀ (b : Bool) (W : World), Kp [] w W → kOk ks[i] r[i] = (b && r[i].ok) → (b = false → False) → (callG Try.prog 79 #[.agg #[.int .i64 r[i].k, .int .i64 r[i].n, .string (str r[i].s)]] W fun t48 w =>
        qG Try.prog (bq .neq 26 (.tmp 48) (.const (.int .i64 0)) t48 (.int .i64 0)) w fun t49 => bV t49 (K (.bool false) w) (entry_is_s1 K N kv rv (.int .i64 r.length) (.int .i64 i) w)) := by
      intro b W hW hb hbf
      have hbt : b = true := by cases b with
        | true => rfl
        | false => exact (hbf rfl).elim
      refine Check_spec r[i] fun w2 hk2 => ?_
      rw [hbt, Bool.true_and] at hb
      cases hv : r[i].ok with
      | false =>
        rw [hv] at hb
        rw [hb, Bool.false_and] at he
        simp [-getElem?_pos, -Array.all_eq_true, -Array.getElem?_eq_getElem, -List.length_flatten, List.getElem?_cons_zero, List.getElem?_cons_succ, ]
        have := hK w2 (hW.trans' hk2)
        rw [he] at this
        exact this
      | true =>
        rw [hv] at hb
        rw [hb, Bool.true_and] at he
        simp [-getElem?_pos, -Array.all_eq_true, -Array.getElem?_eq_getElem, -List.length_flatten, List.getElem?_cons_zero, List.getElem?_cons_succ, ]
        unfold entry_is_s1
        simp only [bq_add, hiw]
        exact hN (r.length - (i + 1)) _ _ (by omega) ⟨i + 1, by omega, rfl, rfl, hW.trans' hk2, he⟩
    have fin : ∀ maybe : Bool, kOk ks[i] r[i] = ((decide (r[i].k = ks[i]) || maybe) && r[i].ok) → entry_is_s2 K N kv (.int .i64 i) (.pointer (some ⟨wi.heap.size, 0, none⟩)) (.bool maybe) rv (.int .i64 r.length) (.int .i64 i) w1 := by
      intro maybe hm
      unfold entry_is_s2
      simp [-getElem?_pos, -Array.all_eq_true, -Array.getElem?_eq_getElem, -List.length_flatten, List.getElem?_cons_zero, List.getElem?_cons_succ, hb1, hia, hh, hc]
      refine ⟨fun hne => ⟨fun hf => ?_, fun ht => ?_⟩, fun heq => ?_⟩
      · rw [hf] at hm
        simp only [hne, decide_false, Bool.false_or, Bool.false_and] at hm
        rw [hm, Bool.false_and] at he
        have := hK _ hkw.drew
        rw [he] at this
        exact this
      · exact step true _ hkw.drew (by rw [hm, ht]; simp) fun h => by cases h
      · exact step true _ hkw.drew (by rw [hm, heq]; simp) fun h => by cases h
    simp [-getElem?_pos, -Array.all_eq_true, -Array.getElem?_eq_getElem, -List.length_flatten, List.getElem?_cons_zero, List.getElem?_cons_succ, hb1, hia, hh, hc]
    refine ⟨fun h0 => ⟨fun h1 => fin _ (by simp [kOk, h0, h1]), fun h1 => fin _ (by simp [kOk, h0, h1])⟩, fun h0 => fin _ (by simp [kOk, h0])⟩
  · have hie : i = r.length := by simp at hge; omega
    subst hie
    unfold entry_is_s0
    have := hK wi hki
    rw [he, List.drop_length, hlen, List.drop_length] at this
    exact this
end Go.Proofs

/- Layer 6: operations as bytes, and back: what each function does; the document's too. -/
set_option linter.unusedVariables false
set_option linter.unusedSimpArgs false
namespace Go.Proofs
open Go Go.Q
def kc (c : UInt8) : Int := if c = 109 then 0 else if c = 116 then 2 else 1
theorem kinds_spec {w : World} {rv : Value} {r : List V3} {what : List UInt8} (hr : Rd w rv 3 (r.map valV)) (hl : r.length < 2 ^ 40) {K : Value → World → Prop}
    (hK : ∀ w', Kp [] w w' → K (.bool (isK r (what.map kc))) w') : callG Try.prog 58 #[rv, .string (str what)] w K := by
  refine ref06_kinds_call ?_
  simp only [ref06_kinds, ref06_kinds_s8, hr.lenL, lenS_s, str_size, List.length_map, bq_neq, bV_b]
  refine ⟨fun h => ?_, fun h => ?_⟩
  · have := hK w (Kp.refl _ _)
    rw [isK_bad (by rw [List.length_map]; intro he; simp [he] at h)] at this
    exact this
  have hlen : r.length = what.length := by simp at h; omega
  have hlen' : r.length = (what.map kc).length := by simp [hlen]
  simp only [ref06_kinds_s7]
  unfold ref06_kinds_L6
  refine loop_inv (fun m xs wi => ∃ i, i ≤ r.length ∧ m = r.length - i ∧ xs = [rv, .string (str what), .int .i64 (i : Nat)] ∧ Kp [] w wi ∧ isK r (what.map kc) = isK (r.drop i) ((what.map kc).drop i)) ?_ (m := r.length) ⟨0, by omega, rfl, rfl, Kp.refl _ _, rfl⟩
  rintro m N xs wi ⟨i, hi, rfl, rfl, hki, he⟩ hN
  simp only [ref06_kinds_L6F, ref06_kinds_s5, (hr.keep hki).lenL, List.length_map, bq_lss, bV_b]
  refine ⟨fun hlt => ?_, fun hge => ?_⟩
  · have hi : i < r.length := by simpa using hlt
    have hik : i < what.length := by omega
    have hiw : IntKind.i64.wrap ((i : Int) + 1) = ((i + 1 : Nat) : Int) := by rw [w64 (by omega) (by omega)]; simp
    rw [isK_drop hlen' hi, List.getElem_map] at he
    obtain ⟨p, hp1, hp2⟩ := rd_val (hr.keep hki) hi
    obtain ⟨w1, hw1⟩ := ex_w (w' := wi.alloc (.cells #[.int .i64 r[i].k, .int .i64 r[i].n, .string (str r[i].s)] 79))
    have hk1 : Kp [] wi w1 := by rw [hw1]; exact kp_alloc
    have hb1 : w1.heap[wi.heap.size]? = some (.cells #[.int .i64 r[i].k, .int .i64 r[i].n, .string (str r[i].s)] 79) := by rw [hw1]; exact heap_new
    have hkw := hki.trans' hk1
    have hcs : ∀ K : Value → Prop, ixS (.string (str what)) (.int .i64 (i : Nat)) K = K (.int .u8 what[i].toNat) := fun K => ixS_lit hik
    have hc := what[i].toNat_lt
    have c116 : (((what[i].toNat : Int) = 116)) = (what[i] = 116) := by
      apply propext; rw [← UInt8.toNat_inj]; simp; omega
    have c109 : (((what[i].toNat : Int) = 109)) = (what[i] = 109) := by
      apply propext; rw [← UInt8.toNat_inj]; simp; omega
    unfold ref06_kinds_s4
    simp [-getElem?_pos, -Array.all_eq_true, -Array.getElem?_eq_getElem, -List.length_flatten, List.getElem?_cons_zero, List.getElem?_cons_succ, hp1, hp2, heap_new, zcVl, hcs]
    rw [← hw1]
    have s2 : ∀ b : Bool, kOk (kc what[i]) r[i] = (b && r[i].ok) → ref06_kinds_s2 K N rv (.string (str what)) (.int .i64 i) (.pointer (some ⟨wi.heap.size, 0, none⟩)) (.bool b) w1 := by
      intro b hb
      unfold ref06_kinds_s2
      simp [-getElem?_pos, -Array.all_eq_true, -Array.getElem?_eq_getElem, -List.length_flatten, List.getElem?_cons_zero, List.getElem?_cons_succ, hb1]
      refine ⟨fun hf => ?_, fun ht => May_spec r[i] fun w2 hk2 => ?_⟩
      · rw [hf] at hb
        rw [hb, Bool.false_and, Bool.false_and] at he
        have := hK _ hkw
        rw [he] at this
        exact this
      · rw [ht, Bool.true_and] at hb
        cases hv : r[i].ok with
        | false =>
          rw [hv] at hb
          rw [hb, Bool.false_and] at he
          simp [-getElem?_pos, -Array.all_eq_true, -Array.getElem?_eq_getElem, -List.length_flatten, List.getElem?_cons_zero, List.getElem?_cons_succ, ]
          have := hK w2 (hkw.trans' hk2)
          rw [he] at this
          exact this
        | true =>
          rw [hv] at hb
          rw [hb, Bool.true_and] at he
          unfold ref06_kinds_s1
          simp [-getElem?_pos, -Array.all_eq_true, -Array.getElem?_eq_getElem, -List.length_flatten, List.getElem?_cons_zero, List.getElem?_cons_succ, hiw]
          exact hN (r.length - (i + 1)) _ _ (by omega) ⟨i + 1, by omega, rfl, rfl, hkw.trans' hk2, he⟩
    have s3 : ∀ b : Bool, (¬ what[i] = 109 → kOk (kc what[i]) r[i] = (b && r[i].ok)) → ref06_kinds_s3 K N rv (.string (str what)) (.int .i64 i) (.pointer (some ⟨wi.heap.size, 0, none⟩)) (.bool b) w1 := by
      intro b hb
      unfold ref06_kinds_s3
      rw [hcs]
      simp [-getElem?_pos, -Array.all_eq_true, -Array.getElem?_eq_getElem, -List.length_flatten, List.getElem?_cons_zero, List.getElem?_cons_succ, hb1, c109]
      refine ⟨fun h => ⟨fun h0 => s2 _ ?_, fun h0 => ⟨fun h1 => s2 _ ?_, fun h1 => s2 _ ?_⟩⟩, fun h => s2 _ (hb h)⟩
      · simp [kOk, kc, h, h0]
      · simp [kOk, kc, h, h1]
      · simp [kOk, kc, h, h0, h1]
    simp only [c116]
    refine ⟨fun h => s3 _ fun _ => ?_, fun h => s3 _ fun hm => ?_⟩
    · simp [kOk, kc, h]
    · simp [kOk, kc, h, hm]
  · have hie : i = r.length := by simp at hge; omega
    subst hie
    unfold ref06_kinds_s0
    have := hK wi hki
    rw [he, List.drop_length, hlen', List.drop_length] at this
    exact this
theorem opRow_vals (o : OpV) : (opRow o).map valV = [valV (numV o.k), valV (textV o.sku), valV (textV o.loc), valV (textV o.to), valV (numV o.q), valV (numV o.id), valV (numV o.due)] := rfl
theorem PutOp_spec {w : World} (o : OpV) (hw : o.Wf) {K : Value → World → Prop} (hK : ∀ w', Kp [] w w' → K (.tuple #[.string (str (putOp o).1), .int .i64 (putOp o).2]) w') : callG Try.prog 15 #[opA o] w K := by
  refine entry_Put_call ?_
  unfold opA
  simp only [entry_Put, entry_Put_s0, newG_k, cells_agg]
  obtain ⟨w1, hw1⟩ := ex_w (w' := w.alloc (.cells #[.int .i64 o.k, .string (str o.sku), .string (str o.loc), .string (str o.to), .int .i64 o.q, .int .i64 o.id, .int .i64 o.due] 23))
  have hk1 : Kp [] w w1 := by rw [hw1]; exact kp_alloc
  have hb1 : w1.heap[w.heap.size]? = some (.cells #[.int .i64 o.k, .string (str o.sku), .string (str o.loc), .string (str o.to), .int .i64 o.q, .int .i64 o.id, .int .i64 o.due] 23) := by rw [hw1]; exact heap_new
  rw [← hw1]
  simp [-getElem?_pos, -Array.all_eq_true, -Array.getElem?_eq_getElem, -List.length_flatten, List.getElem?_cons_zero, List.getElem?_cons_succ, hb1]
  refine CheckOp_spec o fun w2 hk2 => ?_
  have hb2 := hk2.get hb1 (by simp)
  have hk02 := hk1.trans' hk2
  cases ho : o.ok with
  | false =>
    have hp : putOp o = ([], 1) := by unfold putOp; rw [ho]; rfl
    simp [-getElem?_pos, -Array.all_eq_true, -Array.getElem?_eq_getElem, -List.length_flatten, List.getElem?_cons_zero, List.getElem?_cons_succ, ]
    have := hK w2 hk02
    rw [hp] at this
    exact this
  | true =>
    have hp : putOp o = putRow (opRow o) := by unfold putOp; rw [if_pos ho]
    simp [-getElem?_pos, -Array.all_eq_true, -Array.getElem?_eq_getElem, -List.length_flatten, List.getElem?_cons_zero, List.getElem?_cons_succ, hb2]
    refine num_spec _ fun w3 hk3 => ?_
    have hb3 := hk3.get (show w2.drew.heap[w.heap.size]? = _ from hb2) (by simp)
    simp [-getElem?_pos, -Array.all_eq_true, -Array.getElem?_eq_getElem, -List.length_flatten, List.getElem?_cons_zero, List.getElem?_cons_succ, hb3]
    refine text_spec _ fun w4 hk4 => ?_
    have hb4 := hk4.get hb3 (by simp)
    simp [-getElem?_pos, -Array.all_eq_true, -Array.getElem?_eq_getElem, -List.length_flatten, List.getElem?_cons_zero, List.getElem?_cons_succ, hb4]
    refine text_spec _ fun w5 hk5 => ?_
    have hb5 := hk5.get hb4 (by simp)
    simp [-getElem?_pos, -Array.all_eq_true, -Array.getElem?_eq_getElem, -List.length_flatten, List.getElem?_cons_zero, List.getElem?_cons_succ, hb5]
    refine text_spec _ fun w6 hk6 => ?_
    have hb6 := hk6.get hb5 (by simp)
    simp [-getElem?_pos, -Array.all_eq_true, -Array.getElem?_eq_getElem, -List.length_flatten, List.getElem?_cons_zero, List.getElem?_cons_succ, hb6]
    refine num_spec _ fun w7 hk7 => ?_
    have hb7 := hk7.get hb6 (by simp)
    simp [-getElem?_pos, -Array.all_eq_true, -Array.getElem?_eq_getElem, -List.length_flatten, List.getElem?_cons_zero, List.getElem?_cons_succ, hb7]
    refine num_spec _ fun w8 hk8 => ?_
    have hb8 := hk8.get hb7 (by simp)
    simp [-getElem?_pos, -Array.all_eq_true, -Array.getElem?_eq_getElem, -List.length_flatten, List.getElem?_cons_zero, List.getElem?_cons_succ, hb8]
    refine num_spec _ fun w9 hk9 => ?_
    have hk09 := (((((((hk02.trans' kp_drew).trans' hk3).trans' hk4).trans' hk5).trans' hk6).trans' hk7).trans' hk8).trans' hk9
    refine bsl_rows (n := 3) (len := 7) (xs := [valA (numV o.k), valA (textV o.sku), valA (textV o.loc), valA (textV o.to), valA (numV o.q), valA (numV o.id), valA (numV o.due)]) (rows := (opRow o).map valV) (by omega) rfl rfl (by simp [opRow, valV]) (by omega) fun v wa ha => ?_
    refine row_spec ?_
    refine Put_spec ha.rd (opRow_wf ho hw) (by simp [opRow]) fun wb hkb => ?_
    rw [ex0, ex1, ← hp]
    exact hK wb ((hk09.trans' ha.kp).trans' hkb)
theorem refPutOp_spec {w : World} (o : OpV) (hw : o.Wf) {K : Value → World → Prop} (hK : ∀ w', Kp [] w w' → K (.tuple #[.string (str (putOp o).1), .int .i64 (putOp o).2]) w') : callG Try.prog 16 #[opA o] w K := by
  refine ref06_Put_call ?_
  unfold opA
  simp only [ref06_Put, ref06_Put_s0, newG_k, cells_agg]
  obtain ⟨w1, hw1⟩ := ex_w (w' := w.alloc (.cells #[.int .i64 o.k, .string (str o.sku), .string (str o.loc), .string (str o.to), .int .i64 o.q, .int .i64 o.id, .int .i64 o.due] 23))
  have hk1 : Kp [] w w1 := by rw [hw1]; exact kp_alloc
  have hb1 : w1.heap[w.heap.size]? = some (.cells #[.int .i64 o.k, .string (str o.sku), .string (str o.loc), .string (str o.to), .int .i64 o.q, .int .i64 o.id, .int .i64 o.due] 23) := by rw [hw1]; exact heap_new
  rw [← hw1]
  simp [-getElem?_pos, -Array.all_eq_true, -Array.getElem?_eq_getElem, -List.length_flatten, List.getElem?_cons_zero, List.getElem?_cons_succ, hb1]
  refine MayOp_spec o fun w2 hk2 => ?_
  have hb2 := hk2.get hb1 (by simp)
  have hk02 := hk1.trans' hk2
  cases ho : o.ok with
  | false =>
    have hp : putOp o = ([], 1) := by unfold putOp; rw [ho]; rfl
    simp [-getElem?_pos, -Array.all_eq_true, -Array.getElem?_eq_getElem, -List.length_flatten, List.getElem?_cons_zero, List.getElem?_cons_succ, ]
    have := hK w2 hk02
    rw [hp] at this
    exact this
  | true =>
    have hp : putOp o = putRow (opRow o) := by unfold putOp; rw [if_pos ho]
    simp [-getElem?_pos, -Array.all_eq_true, -Array.getElem?_eq_getElem, -List.length_flatten, List.getElem?_cons_zero, List.getElem?_cons_succ, hb2]
    refine refNum_spec _ fun w3 hk3 => ?_
    have hb3 := hk3.get (show w2.drew.heap[w.heap.size]? = _ from hb2) (by simp)
    simp [-getElem?_pos, -Array.all_eq_true, -Array.getElem?_eq_getElem, -List.length_flatten, List.getElem?_cons_zero, List.getElem?_cons_succ, hb3]
    refine refText_spec _ fun w4 hk4 => ?_
    have hb4 := hk4.get hb3 (by simp)
    simp [-getElem?_pos, -Array.all_eq_true, -Array.getElem?_eq_getElem, -List.length_flatten, List.getElem?_cons_zero, List.getElem?_cons_succ, hb4]
    refine refText_spec _ fun w5 hk5 => ?_
    have hb5 := hk5.get hb4 (by simp)
    simp [-getElem?_pos, -Array.all_eq_true, -Array.getElem?_eq_getElem, -List.length_flatten, List.getElem?_cons_zero, List.getElem?_cons_succ, hb5]
    refine refText_spec _ fun w6 hk6 => ?_
    have hb6 := hk6.get hb5 (by simp)
    simp [-getElem?_pos, -Array.all_eq_true, -Array.getElem?_eq_getElem, -List.length_flatten, List.getElem?_cons_zero, List.getElem?_cons_succ, hb6]
    refine refNum_spec _ fun w7 hk7 => ?_
    have hb7 := hk7.get hb6 (by simp)
    simp [-getElem?_pos, -Array.all_eq_true, -Array.getElem?_eq_getElem, -List.length_flatten, List.getElem?_cons_zero, List.getElem?_cons_succ, hb7]
    refine refNum_spec _ fun w8 hk8 => ?_
    have hb8 := hk8.get hb7 (by simp)
    simp [-getElem?_pos, -Array.all_eq_true, -Array.getElem?_eq_getElem, -List.length_flatten, List.getElem?_cons_zero, List.getElem?_cons_succ, hb8]
    refine refNum_spec _ fun w9 hk9 => ?_
    have hk09 := (((((((hk02.trans' kp_drew).trans' hk3).trans' hk4).trans' hk5).trans' hk6).trans' hk7).trans' hk8).trans' hk9
    refine bsl_rows (n := 3) (len := 7) (xs := [valA (numV o.k), valA (textV o.sku), valA (textV o.loc), valA (textV o.to), valA (numV o.q), valA (numV o.id), valA (numV o.due)]) (rows := (opRow o).map valV) (by omega) rfl rfl (by simp [opRow, valV]) (by omega) fun v wa ha => ?_
    refine refPut_spec ha.rd (opRow_wf ho hw) (by simp [opRow]) fun wb hkb => ?_
    rw [ex0, ex1, ← hp]
    exact hK wb ((hk09.trans' ha.kp).trans' hkb)
theorem lvO {b : Nat} {w : World} {c : Array Value} {T : TypeId} {fr : Nat × Nat} (hb : Live w b) (hs : c.size = 7) {K : Value → Prop} :
    qG Try.prog (do loadVar 23 (← asAddr (.pointer (some ⟨b, 0, none⟩)))) (setBlk w b (.cells c T fr)) K = K (.agg c) := loadVar_of aggOpT szOpT (heap_self hb) hs
theorem takeRow_len {s : List UInt8} (h : s.length < 2 ^ 39) : (takeRow s).1.length < 256 := by
  cases s with
  | nil => simp [takeRow]
  | cons c t =>
    rw [takeRow_cons]
    split
    · rename_i l hl
      have := (takeL_some _ hl).1
      have := c.toNat_lt
      simp; omega
    · simp
end Go.Proofs

/- Layer 6: operations taken from bytes. -/
set_option linter.unusedVariables false
set_option linter.unusedSimpArgs false
namespace Go.Proofs
open Go Go.Q
theorem takeOp_bad {s : List UInt8} (h : ¬ ((takeRow s).2 = 0 ∧ isK (takeRow s).1 opKinds = true ∧ (rowOp (takeRow s).1).ok = true)) : takeOp s = (opZ, 50) := by unfold takeOp; rw [if_neg h]
theorem takeOp_good {s : List UInt8} (h : (takeRow s).2 = 0 ∧ isK (takeRow s).1 opKinds = true ∧ (rowOp (takeRow s).1).ok = true) : takeOp s = (rowOp (takeRow s).1, 0) := by unfold takeOp; rw [if_pos h]
section
variable {w0 : World} {a : Nat} {K : Value → World → Prop}
theorem takeOp_s0 {w : World} {v : Value} {r : List V3} (hr : Rd w v 3 (r.map valV)) (hk : isK r opKinds = true)
    (ha : w.heap[a]? = some (.cells #[.int .i64 0, .string (str []), .string (str []), .string (str []), .int .i64 0, .int .i64 0, .int .i64 0] 23)) (ha0 : w0.heap.size ≤ a) (hkp : Kp [] w0 w)
    (hK : ∀ w', Kp [] w0 w' → K (.tuple #[opA (if (rowOp r).ok = true then rowOp r else opZ), .int .i64 (if (rowOp r).ok = true then 0 else 50)]) w') : entry_Take_s0 K (.pointer (some ⟨a, 0, none⟩)) v w := by
  obtain ⟨r0, r1, r2, r3, r4, r5, r6, rfl⟩ := list7 (isK_len hk)
  obtain ⟨b0, o0, c0, T0, f0, h0, i0, q0, n0, s0⟩ := rd_cells hr (i := 0) (by simp)
  obtain ⟨b1, o1, c1, T1, f1, h1, i1, q1, n1, s1⟩ := rd_cells hr (i := 1) (by simp)
  obtain ⟨b2, o2, c2, T2, f2, h2, i2, q2, n2, s2⟩ := rd_cells hr (i := 2) (by simp)
  obtain ⟨b3, o3, c3, T3, f3, h3, i3, q3, n3, s3⟩ := rd_cells hr (i := 3) (by simp)
  obtain ⟨b4, o4, c4, T4, f4, h4, i4, q4, n4, s4⟩ := rd_cells hr (i := 4) (by simp)
  obtain ⟨b5, o5, c5, T5, f5, h5, i5, q5, n5, s5⟩ := rd_cells hr (i := 5) (by simp)
  obtain ⟨b6, o6, c6, T6, f6, h6, i6, q6, n6, s6⟩ := rd_cells hr (i := 6) (by simp)
  have i0' : ∀ K : Value → Prop, ia 3 v (.int .i64 0) K = K (.pointer (some ⟨b0, o0, none⟩)) := fun K => i0 .i64 K
  have i1' : ∀ K : Value → Prop, ia 3 v (.int .i64 1) K = K (.pointer (some ⟨b1, o1, none⟩)) := fun K => i1 .i64 K
  have i2' : ∀ K : Value → Prop, ia 3 v (.int .i64 2) K = K (.pointer (some ⟨b2, o2, none⟩)) := fun K => i2 .i64 K
  have i3' : ∀ K : Value → Prop, ia 3 v (.int .i64 3) K = K (.pointer (some ⟨b3, o3, none⟩)) := fun K => i3 .i64 K
  have i4' : ∀ K : Value → Prop, ia 3 v (.int .i64 4) K = K (.pointer (some ⟨b4, o4, none⟩)) := fun K => i4 .i64 K
  have i5' : ∀ K : Value → Prop, ia 3 v (.int .i64 5) K = K (.pointer (some ⟨b5, o5, none⟩)) := fun K => i5 .i64 K
  have i6' : ∀ K : Value → Prop, ia 3 v (.int .i64 6) K = K (.pointer (some ⟨b6, o6, none⟩)) := fun K => i6 .i64 K
  clear i0 i1 i2 i3 i4 i5 i6
  simp only [List.getElem_cons_zero, List.getElem_cons_succ] at n0 s1 s2 s3 n4 n5 n6
  clear q0 q1 q2 q3 q4 q5 q6 s0 n1 n2 n3 s4 s5 s6
  obtain ⟨o, ho⟩ : ∃ o, o = rowOp [r0, r1, r2, r3, r4, r5, r6] := ⟨_, rfl⟩
  have eo : o = ⟨r0.n, r1.s, r2.s, r3.s, r4.n, r5.n, r6.n⟩ := ho
  rw [← ho] at hK
  obtain ⟨w2, hw2⟩ := ex_w (w' := w.alloc (.cells #[.int .i64 r0.n, .string (str r1.s), .string (str r2.s), .string (str r3.s), .int .i64 r4.n, .int .i64 r5.n, .int .i64 r6.n] 23))
  have hk2 : Kp [] w w2 := by rw [hw2]; exact kp_alloc
  have hb2 : w2.heap[w.heap.size]? = some (.cells #[.int .i64 r0.n, .string (str r1.s), .string (str r2.s), .string (str r3.s), .int .i64 r4.n, .int .i64 r5.n, .int .i64 r6.n] 23) := by rw [hw2]; exact heap_new
  obtain ⟨wz, hwz⟩ := ex_w (w' := w.alloc (.cells #[.int .i64 0, .string (str []), .string (str []), .string (str []), .int .i64 0, .int .i64 0, .int .i64 0] 23))
  have hkz : Kp [] w wz := by rw [hwz]; exact kp_alloc
  have hz0 := hkz.get h0 (by simp)
  have hz1 := hkz.get h1 (by simp)
  have hz2 := hkz.get h2 (by simp)
  have hz3 := hkz.get h3 (by simp)
  have hz4 := hkz.get h4 (by simp)
  have hz5 := hkz.get h5 (by simp)
  have hz6 := hkz.get h6 (by simp)
  rw [hwz] at hz0 hz1 hz2 hz3 hz4 hz5 hz6
  have ha2 := hk2.get ha (by simp)
  have ha2d : w2.drew.heap[a]? = some (.cells #[.int .i64 0, .string (str []), .string (str []), .string (str []), .int .i64 0, .int .i64 0, .int .i64 0] 23) := ha2
  unfold entry_Take_s0
  simp [-getElem?_pos, -Array.all_eq_true, -Array.getElem?_eq_getElem, -List.length_flatten, List.getElem?_cons_zero, List.getElem?_cons_succ, i0', i1', i2', i3', i4', i5', i6', h0, h1, h2, h3, h4, h5, h6, hz0, hz1, hz2, hz3, hz4, hz5, hz6, n0, s1, s2, s3, n4, n5, n6, zcOp, str_nil, bld_done, bld_if, offAt, putAt, heap_new]
  rw [← hw2]
  have e : opA o = .agg #[.int .i64 r0.n, .string (str r1.s), .string (str r2.s), .string (str r3.s), .int .i64 r4.n, .int .i64 r5.n, .int .i64 r6.n] := by rw [eo]; rfl
  rw [← e]
  refine CheckOp_spec o fun w3 hk3 => ?_
  have ha3 := hk3.get ha2d (by simp)
  have hb3 := hk3.get (show w2.drew.heap[w.heap.size]? = _ from hb2) (by simp)
  have la := live_of ha3
  have hkk : ∀ ob, Kp [] w0 (setBlk w3 a ob) := fun ob => (((hkp.trans' hk2).trans' kp_drew).trans' hk3).setBlk (.inr ha0) _
  cases hok : o.ok with
  | true =>
    rw [hok] at hK
    simp [-getElem?_pos, -Array.all_eq_true, -Array.getElem?_eq_getElem, -List.length_flatten, List.getElem?_cons_zero, List.getElem?_cons_succ, hb3, ha3, la, lvO]
    have := hK _ (hkk (.cells #[.int .i64 r0.n, .string (str r1.s), .string (str r2.s), .string (str r3.s), .int .i64 r4.n, .int .i64 r5.n, .int .i64 r6.n] 23))
    simpa [opA, eo] using this
  | false =>
    rw [hok] at hK
    simp [-getElem?_pos, -Array.all_eq_true, -Array.getElem?_eq_getElem, -List.length_flatten, List.getElem?_cons_zero, List.getElem?_cons_succ, hb3, ha3, la, lvO, zcOp, str_nil, bld_done]
    have := hK _ (hkk (.cells #[.int .i64 0, .string (str []), .string (str []), .string (str []), .int .i64 0, .int .i64 0, .int .i64 0] 23))
    simpa [opA, opZ] using this
theorem refTakeOp_s0 {w : World} {v : Value} {r : List V3} (hr : Rd w v 3 (r.map valV)) (hk : isK r opKinds = true)
    (ha : w.heap[a]? = some (.cells #[.int .i64 0, .string (str []), .string (str []), .string (str []), .int .i64 0, .int .i64 0, .int .i64 0] 23)) (ha0 : w0.heap.size ≤ a) (hkp : Kp [] w0 w)
    (hK : ∀ w', Kp [] w0 w' → K (.tuple #[opA (if (rowOp r).ok = true then rowOp r else opZ), .int .i64 (if (rowOp r).ok = true then 0 else 50)]) w') : ref06_Take_s0 K (.pointer (some ⟨a, 0, none⟩)) v w := by
  obtain ⟨r0, r1, r2, r3, r4, r5, r6, rfl⟩ := list7 (isK_len hk)
  obtain ⟨b0, o0, c0, T0, f0, h0, i0, q0, n0, s0⟩ := rd_cells hr (i := 0) (by simp)
  obtain ⟨b1, o1, c1, T1, f1, h1, i1, q1, n1, s1⟩ := rd_cells hr (i := 1) (by simp)
  obtain ⟨b2, o2, c2, T2, f2, h2, i2, q2, n2, s2⟩ := rd_cells hr (i := 2) (by simp)
  obtain ⟨b3, o3, c3, T3, f3, h3, i3, q3, n3, s3⟩ := rd_cells hr (i := 3) (by simp)
  obtain ⟨b4, o4, c4, T4, f4, h4, i4, q4, n4, s4⟩ := rd_cells hr (i := 4) (by simp)
  obtain ⟨b5, o5, c5, T5, f5, h5, i5, q5, n5, s5⟩ := rd_cells hr (i := 5) (by simp)
  obtain ⟨b6, o6, c6, T6, f6, h6, i6, q6, n6, s6⟩ := rd_cells hr (i := 6) (by simp)
  have i0' : ∀ K : Value → Prop, ia 3 v (.int .i64 0) K = K (.pointer (some ⟨b0, o0, none⟩)) := fun K => i0 .i64 K
  have i1' : ∀ K : Value → Prop, ia 3 v (.int .i64 1) K = K (.pointer (some ⟨b1, o1, none⟩)) := fun K => i1 .i64 K
  have i2' : ∀ K : Value → Prop, ia 3 v (.int .i64 2) K = K (.pointer (some ⟨b2, o2, none⟩)) := fun K => i2 .i64 K
  have i3' : ∀ K : Value → Prop, ia 3 v (.int .i64 3) K = K (.pointer (some ⟨b3, o3, none⟩)) := fun K => i3 .i64 K
  have i4' : ∀ K : Value → Prop, ia 3 v (.int .i64 4) K = K (.pointer (some ⟨b4, o4, none⟩)) := fun K => i4 .i64 K
  have i5' : ∀ K : Value → Prop, ia 3 v (.int .i64 5) K = K (.pointer (some ⟨b5, o5, none⟩)) := fun K => i5 .i64 K
  have i6' : ∀ K : Value → Prop, ia 3 v (.int .i64 6) K = K (.pointer (some ⟨b6, o6, none⟩)) := fun K => i6 .i64 K
  clear i0 i1 i2 i3 i4 i5 i6
  simp only [List.getElem_cons_zero, List.getElem_cons_succ] at n0 s1 s2 s3 n4 n5 n6
  clear q0 q1 q2 q3 q4 q5 q6 s0 n1 n2 n3 s4 s5 s6
  obtain ⟨o, ho⟩ : ∃ o, o = rowOp [r0, r1, r2, r3, r4, r5, r6] := ⟨_, rfl⟩
  have eo : o = ⟨r0.n, r1.s, r2.s, r3.s, r4.n, r5.n, r6.n⟩ := ho
  rw [← ho] at hK
  obtain ⟨w2, hw2⟩ := ex_w (w' := w.alloc (.cells #[.int .i64 r0.n, .string (str r1.s), .string (str r2.s), .string (str r3.s), .int .i64 r4.n, .int .i64 r5.n, .int .i64 r6.n] 23))
  have hk2 : Kp [] w w2 := by rw [hw2]; exact kp_alloc
  have hb2 : w2.heap[w.heap.size]? = some (.cells #[.int .i64 r0.n, .string (str r1.s), .string (str r2.s), .string (str r3.s), .int .i64 r4.n, .int .i64 r5.n, .int .i64 r6.n] 23) := by rw [hw2]; exact heap_new
  obtain ⟨wz, hwz⟩ := ex_w (w' := w.alloc (.cells #[.int .i64 0, .string (str []), .string (str []), .string (str []), .int .i64 0, .int .i64 0, .int .i64 0] 23))
  have hkz : Kp [] w wz := by rw [hwz]; exact kp_alloc
  have hz0 := hkz.get h0 (by simp)
  have hz1 := hkz.get h1 (by simp)
  have hz2 := hkz.get h2 (by simp)
  have hz3 := hkz.get h3 (by simp)
  have hz4 := hkz.get h4 (by simp)
  have hz5 := hkz.get h5 (by simp)
  have hz6 := hkz.get h6 (by simp)
  rw [hwz] at hz0 hz1 hz2 hz3 hz4 hz5 hz6
  have ha2 := hk2.get ha (by simp)
  have ha2d : w2.drew.heap[a]? = some (.cells #[.int .i64 0, .string (str []), .string (str []), .string (str []), .int .i64 0, .int .i64 0, .int .i64 0] 23) := ha2
  unfold ref06_Take_s0
  simp [-getElem?_pos, -Array.all_eq_true, -Array.getElem?_eq_getElem, -List.length_flatten, List.getElem?_cons_zero, List.getElem?_cons_succ, i0', i1', i2', i3', i4', i5', i6', h0, h1, h2, h3, h4, h5, h6, hz0, hz1, hz2, hz3, hz4, hz5, hz6, n0, s1, s2, s3, n4, n5, n6, zcOp, str_nil, bld_done, bld_if, offAt, putAt, heap_new]
  rw [← hw2]
  have e : opA o = .agg #[.int .i64 r0.n, .string (str r1.s), .string (str r2.s), .string (str r3.s), .int .i64 r4.n, .int .i64 r5.n, .int .i64 r6.n] := by rw [eo]; rfl
  rw [← e]
  refine MayOp_spec o fun w3 hk3 => ?_
  have ha3 := hk3.get ha2d (by simp)
  have hb3 := hk3.get (show w2.drew.heap[w.heap.size]? = _ from hb2) (by simp)
  have la := live_of ha3
  have hkk : ∀ ob, Kp [] w0 (setBlk w3 a ob) := fun ob => (((hkp.trans' hk2).trans' kp_drew).trans' hk3).setBlk (.inr ha0) _
  cases hok : o.ok with
  | true =>
    rw [hok] at hK
    simp [-getElem?_pos, -Array.all_eq_true, -Array.getElem?_eq_getElem, -List.length_flatten, List.getElem?_cons_zero, List.getElem?_cons_succ, hb3, ha3, la, lvO]
    have := hK _ (hkk (.cells #[.int .i64 r0.n, .string (str r1.s), .string (str r2.s), .string (str r3.s), .int .i64 r4.n, .int .i64 r5.n, .int .i64 r6.n] 23))
    simpa [opA, eo] using this
  | false =>
    rw [hok] at hK
    simp [-getElem?_pos, -Array.all_eq_true, -Array.getElem?_eq_getElem, -List.length_flatten, List.getElem?_cons_zero, List.getElem?_cons_succ, hb3, ha3, la, lvO, zcOp, str_nil, bld_done]
    have := hK _ (hkk (.cells #[.int .i64 0, .string (str []), .string (str []), .string (str []), .int .i64 0, .int .i64 0, .int .i64 0] 23))
    simpa [opA, opZ] using this
end
theorem TakeOp_spec {w : World} (s : List UInt8) (hl : s.length < 2 ^ 39) {K : Value → World → Prop} (hK : ∀ w', Kp [] w w' → K (.tuple #[opA (takeOp s).1, .int .i64 (takeOp s).2]) w') : callG Try.prog 19 #[.string (str s)] w K := by
  refine entry_Take_call ?_
  simp only [entry_Take, entry_Take_s1, newG_k, zcOp, str_nil]
  obtain ⟨n, hn⟩ : ∃ n, n = w.heap.size := ⟨_, rfl⟩
  obtain ⟨w1, hw1⟩ := ex_w (w' := w.alloc (.cells #[.int .i64 0, .string (str []), .string (str []), .string (str []), .int .i64 0, .int .i64 0, .int .i64 0] 23))
  have hk1 : Kp [] w w1 := by rw [hw1]; exact kp_alloc
  have ha1 : w1.heap[n]? = some (.cells #[.int .i64 0, .string (str []), .string (str []), .string (str []), .int .i64 0, .int .i64 0, .int .i64 0] 23) := by rw [hw1, hn]; exact heap_new
  rw [← hw1, ← hn]
  refine Take_spec s hl fun v w2 h2 => ?_
  rw [ex0, ex1]
  have ha2 := h2.kp.get ha1 (by simp)
  have hk02 := hk1.trans' h2.kp
  have bad : ∀ w', Kp [] w w' → ¬ ((takeRow s).2 = 0 ∧ isK (takeRow s).1 opKinds = true ∧ (rowOp (takeRow s).1).ok = true) → K (.tuple #[opA opZ, .int .i64 50]) w' := by
    intro w' hk h
    have := hK w' hk
    rw [takeOp_bad h] at this
    exact this
  have la := live_of ha2
  have hks : ∀ W, Kp [] w W → ∀ ob, Kp [] w (setBlk W n ob) := fun W hW ob => hW.setBlk (.inr (by omega)) _
  by_cases he : (takeRow s).2 = 0
  · have hlen := takeRow_len hl
    rw [he]
    simp [-getElem?_pos, -Array.all_eq_true, -Array.getElem?_eq_getElem, -List.length_flatten, List.getElem?_cons_zero, List.getElem?_cons_succ, ha2]
    refine bsl_rows (n := 1) (len := 7) (xs := [.int .i64 1, .int .i64 2, .int .i64 2, .int .i64 2, .int .i64 1, .int .i64 1, .int .i64 1]) (rows := opKinds.map intV) (by omega) rfl rfl (by simp [opKinds, intV]) (by omega) fun v3 wk h3 => ?_
    refine is_spec (h2.rd.keep h3.kp) h3.rd (by omega) fun w3 hk3' => ?_
    have hk3 := h3.kp.trans' hk3'
    have ha3 := hk3.get ha2 (by simp)
    have la3 := live_of ha3
    have hk03 := hk02.trans' hk3
    cases hk : isK (takeRow s).1 opKinds with
    | false =>
      simp [-getElem?_pos, -Array.all_eq_true, -Array.getElem?_eq_getElem, -List.length_flatten, List.getElem?_cons_zero, List.getElem?_cons_succ, ha3, bld_done, lvO, la3]
      have := bad _ (hks w3 hk03 (.cells #[.int .i64 0, .string (str []), .string (str []), .string (str []), .int .i64 0, .int .i64 0, .int .i64 0] 23)) (by rw [hk]; simp)
      simpa [opA, opZ] using this
    | true =>
      simp [-getElem?_pos, -Array.all_eq_true, -Array.getElem?_eq_getElem, -List.length_flatten, List.getElem?_cons_zero, List.getElem?_cons_succ, ]
      refine takeOp_s0 (w0 := w) (h2.rd.keep hk3) hk ha3 (by omega) hk03 fun w4 hk4 => ?_
      have := hK w4 hk4
      cases ho : (rowOp (takeRow s).1).ok with
      | true => rw [takeOp_good ⟨he, hk, ho⟩] at this; exact this
      | false => rw [takeOp_bad (by rw [ho]; simp)] at this; exact this
  · simp [-getElem?_pos, -Array.all_eq_true, -Array.getElem?_eq_getElem, -List.length_flatten, List.getElem?_cons_zero, List.getElem?_cons_succ, ha2, he, bld_done, lvO, la]
    have := bad _ (hks w2 hk02 (.cells #[.int .i64 0, .string (str []), .string (str []), .string (str []), .int .i64 0, .int .i64 0, .int .i64 0] 23)) (fun h => he h.1)
    simpa [opA, opZ] using this
theorem refTakeOp_spec {w : World} (s : List UInt8) (hl : s.length < 2 ^ 39) {K : Value → World → Prop} (hK : ∀ w', Kp [] w w' → K (.tuple #[opA (takeOp s).1, .int .i64 (takeOp s).2]) w') : callG Try.prog 20 #[.string (str s)] w K := by
  refine ref06_Take_call ?_
  simp only [ref06_Take, ref06_Take_s1, newG_k, zcOp, str_nil]
  obtain ⟨n, hn⟩ : ∃ n, n = w.heap.size := ⟨_, rfl⟩
  obtain ⟨w1, hw1⟩ := ex_w (w' := w.alloc (.cells #[.int .i64 0, .string (str []), .string (str []), .string (str []), .int .i64 0, .int .i64 0, .int .i64 0] 23))
  have hk1 : Kp [] w w1 := by rw [hw1]; exact kp_alloc
  have ha1 : w1.heap[n]? = some (.cells #[.int .i64 0, .string (str []), .string (str []), .string (str []), .int .i64 0, .int .i64 0, .int .i64 0] 23) := by rw [hw1, hn]; exact heap_new
  rw [← hw1, ← hn]
  refine refTake_spec s hl fun v w2 h2 => ?_
  rw [ex0, ex1]
  have ha2 := h2.kp.get ha1 (by simp)
  have hk02 := hk1.trans' h2.kp
  have bad : ∀ w', Kp [] w w' → ¬ ((takeRow s).2 = 0 ∧ isK (takeRow s).1 opKinds = true ∧ (rowOp (takeRow s).1).ok = true) → K (.tuple #[opA opZ, .int .i64 50]) w' := by
    intro w' hk h
    have := hK w' hk
    rw [takeOp_bad h] at this
    exact this
  have la := live_of ha2
  have hks : ∀ W, Kp [] w W → ∀ ob, Kp [] w (setBlk W n ob) := fun W hW ob => hW.setBlk (.inr (by omega)) _
  by_cases he : (takeRow s).2 = 0
  · have hlen := takeRow_len hl
    rw [he]
    simp [-getElem?_pos, -Array.all_eq_true, -Array.getElem?_eq_getElem, -List.length_flatten, List.getElem?_cons_zero, List.getElem?_cons_succ, ha2]
    have hw : (⟨#[110, 116, 116, 116, 110, 110, 110]⟩ : ByteArray) = str [110, 116, 116, 116, 110, 110, 110] := rfl
    have hkc : [110, 116, 116, 116, 110, 110, 110].map kc = opKinds := by decide
    rw [hw]
    refine kinds_spec h2.rd (by omega) fun w3 hk3 => ?_
    rw [hkc]
    have ha3 := hk3.get ha2 (by simp)
    have la3 := live_of ha3
    have hk03 := hk02.trans' hk3
    cases hk : isK (takeRow s).1 opKinds with
    | false =>
      simp [-getElem?_pos, -Array.all_eq_true, -Array.getElem?_eq_getElem, -List.length_flatten, List.getElem?_cons_zero, List.getElem?_cons_succ, ha3, bld_done, lvO, la3]
      have := bad _ (hks w3 hk03 (.cells #[.int .i64 0, .string (str []), .string (str []), .string (str []), .int .i64 0, .int .i64 0, .int .i64 0] 23)) (by rw [hk]; simp)
      simpa [opA, opZ] using this
    | true =>
      simp [-getElem?_pos, -Array.all_eq_true, -Array.getElem?_eq_getElem, -List.length_flatten, List.getElem?_cons_zero, List.getElem?_cons_succ, ]
      refine refTakeOp_s0 (w0 := w) (h2.rd.keep hk3) hk ha3 (by omega) hk03 fun w4 hk4 => ?_
      have := hK w4 hk4
      cases ho : (rowOp (takeRow s).1).ok with
      | true => rw [takeOp_good ⟨he, hk, ho⟩] at this; exact this
      | false => rw [takeOp_bad (by rw [ho]; simp)] at this; exact this
  · simp [-getElem?_pos, -Array.all_eq_true, -Array.getElem?_eq_getElem, -List.length_flatten, List.getElem?_cons_zero, List.getElem?_cons_succ, ha2, he, bld_done, lvO, la]
    have := bad _ (hks w2 hk02 (.cells #[.int .i64 0, .string (str []), .string (str []), .string (str []), .int .i64 0, .int .i64 0, .int .i64 0] 23)) (fun h => he h.1)
    simpa [opA, opZ] using this
end Go.Proofs
