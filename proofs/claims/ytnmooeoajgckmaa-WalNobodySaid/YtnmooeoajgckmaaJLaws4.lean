/- Part of the proof (JLaws4): an engine, rules or contracts of the functions; it states nothing of the claim by itself. -/
import Derived.Test.YtnmooeoajgckmaaJWal
import Derived.Test.YtnmooeoajgckmaaJText

/- WalFrames. -/
set_option linter.unusedVariables false
set_option linter.unusedSimpArgs false
namespace Go.Proofs
open Go Go.Q
theorem lenAt_frame (t : Int) (s : List UInt8) (h : s.length ≤ 1024) : lenAt (frameB t s) = s.length := by
  have h0 : (putB (s.length : Int) 0).toNat = s.length % 256 := by unfold putB; simp; omega
  have h1 : (putB (s.length : Int) 1).toNat = s.length / 256 % 256 := by unfold putB; simp; omega
  have e : lenAt (frameB t s) = (putB (s.length : Int) 0).toNat + (putB (s.length : Int) 1).toNat * 2 ^ 8 := by
    simp [lenAt, frameB, headOf, put4, List.getD]
  rw [e, h0, h1]; omega
theorem scan_frame (t : Int) (s : List UInt8) (h : (frame t s).2 = 0) : (frame t s).1.length = 10 + s.length ∧ scan t (frame t s).1 = [s] ∧ usedOf [s] = 10 + s.length := by
  have hc : turnOk t = true ∧ s ≠ [] ∧ s.length ≤ 1024 := by
    unfold frame at h
    split at h
    · assumption
    · simp at h
  have hf : frame t s = (frameB t s, 0) := by unfold frame; rw [if_pos hc]
  have hl := frameB_len t s
  have hs : s.length ≠ 0 := by simpa using hc.2.1
  have hla := lenAt_frame t s hc.2.2
  have hrec : recOf (frameB t s) = s := by
    unfold recOf
    rw [hla]
    have : (frameB t s).drop 10 = s := by
      unfold frameB
      rw [List.drop_left' (by simp [headOf_len, put4_len])]
    rw [this, List.take_length]
  have hok : nextOk t (frameB t s) = true := (next_frame t _).2 ⟨by omega, by omega, by omega, by omega, by
    rw [hrec, hf, hla, List.take_of_length_le (by omega)]⟩
  refine ⟨by rw [hf]; exact hl, ?_, by simp [usedOf]⟩
  rw [hf]
  show scan t (frameB t s) = [s]
  unfold scan
  obtain ⟨n, hn⟩ : ∃ n, (frameB t s).length = n + 1 := ⟨(frameB t s).length - 1, by omega⟩
  rw [hn]
  unfold scanL
  rw [if_pos hok, hrec, hla, List.drop_of_length_le (by omega)]
  have hnil : scanL t n [] = [] := by
    cases n with
    | zero => rfl
    | succ n => unfold scanL; rw [if_neg (by simp [nextOk])]
  rw [hnil]
theorem frames_call {w0 : World} {t : Int} {s bytes : List UInt8} {R : Value → World → Prop} (hR : ∀ w', Kp [] w0 w' → R (.bool true) w') : callG Try.prog 7 #[.int .i64 t, .string (str s), .string (str bytes)] w0 R := by
  refine law04_WalFrames_call ?_
  simp only [law04_WalFrames, law04_WalFrames_s2, lenS_s, str_size, bq_gtr, bV_b]
  have haw : ∀ w', Kp [] w0 w' → callG Try.prog 29 #[] w' fun t w => R t w := fun w' hk => awake4_spec fun w'' hk' => hR w'' (hk.trans' hk')
  refine ⟨fun _ => haw w0 (Kp.refl _ _), fun h1 => ⟨fun _ => haw w0 (Kp.refl _ _), fun h2 => ?_⟩⟩
  have h1 : s.length ≤ 2048 := by simp at h1; omega
  have h2 : bytes.length ≤ 1024 := by simp at h2; omega
  unfold law04_WalFrames_s1
  refine Frame_spec t s (by omega) fun w1 hk1 => ?_
  rw [ex0, ex1]
  refine refFrame_spec t s (by omega) fun w2 hk2 => ?_
  rw [ex0, ex1]
  refine Scan_spec t bytes (by omega) fun w3 v3 S3 hr3 hk3 hS3 => ?_
  rw [ex0, ex1]
  refine refScan_spec t bytes (by omega) fun w4 v4 S4 hr4 hk4 hS4 => ?_
  rw [ex0, ex1]
  have hk04 := ((hk1.trans' hk2).trans' hk3).trans' hk4
  have hul := scan_used t bytes
  have hll := usedOf_len (scan t bytes)
  simp [-getElem?_pos, -Array.getElem?_eq_getElem, -List.length_flatten, List.getElem?_cons_zero, List.getElem?_cons_succ, ]
  refine same_spec (.inr (hr3.keep hk4 (by simp)).rd) (.inr hr4.rd) (by omega) fun w5 hk5 => ?_
  simp [-getElem?_pos, -Array.getElem?_eq_getElem, -List.length_flatten, List.getElem?_cons_zero, List.getElem?_cons_succ, ]
  unfold law04_WalFrames_s0
  have hk05 := hk04.trans' hk5
  simp [-getElem?_pos, -Array.getElem?_eq_getElem, -List.length_flatten, List.getElem?_cons_zero, List.getElem?_cons_succ, ]
  refine ⟨fun he => haw w5 hk05, fun he => ?_⟩
  obtain ⟨f1, f2, f3⟩ := scan_frame t s he
  have hfl := frame_len_le t s
  refine Scan_spec t (frame t s).1 (by omega) fun w6 v6 S6 hr6 hk6 hS6 => ?_
  rw [ex0, ex1]
  rw [f2] at hr6
  rw [f2, f3]
  rw [bsl_one rfl]
  obtain ⟨w7, hw7⟩ : ∃ w7, w7 = w6.alloc (.cells #[.string (str s)] 9) := ⟨_, rfl⟩
  have hk7 : Kp [] w6 w7 := by rw [hw7]; exact (Kp.refl [] w6).alloc _
  have hb7 : w7.heap[w6.heap.size]? = some (.cells #[.string (str s)] 9) := by rw [hw7]; exact heap_new
  rw [← hw7]
  have hs7 : RdAt w7 (.slice (some ⟨w6.heap.size, 0, none⟩) 1 1) 1 ([s].map strV) [w6.heap.size] :=
    .inr ⟨_, 0, 1, _, _, _, rfl, rfl, hb7, by simp [strV], by simp, by simp [strV], by simp⟩
  refine same_spec (.inr (hr6.keep hk7 (by simp)).rd) (.inr hs7) (by simp) fun w8 hk8 => ?_
  have e1 : IntKind.i64.wrap (10 + (s.length : Int)) = 10 + (s.length : Int) := w64 (by omega) (by omega)
  have e2 : (((frame t s).1.length : Nat) : Int) = 10 + (s.length : Int) := by omega
  simp [-getElem?_pos, -Array.getElem?_eq_getElem, -List.length_flatten, List.getElem?_cons_zero, List.getElem?_cons_succ, e1, f1]
  exact haw w8 (((hk05.trans' hk6).trans' hk7).trans' hk8)
end Go.Proofs

/- WalNobody. -/
set_option linter.unusedVariables false
set_option linter.unusedSimpArgs false
namespace Go.Proofs
open Go Go.Q
theorem Open_nob {w : World} {v : Value} (h : Nob w v) (hv : Q.one v = true) (lo hi turn : Int) {K : Value → World → Prop} (hK : ∀ w', Kp [] w w' → K (.tuple #[.pointer none, .int .i64 1]) w') :
    callG Try.prog 35 #[v, .int .i64 lo, .int .i64 hi, .int .i64 turn] w K := by
  refine wal_Open_call ?_
  simp only [wal_Open, wal_Open_s1]
  rw [newG_k, cells_one hv]
  obtain ⟨n, hn⟩ : ∃ n, n = w.heap.size := ⟨_, rfl⟩
  obtain ⟨w1, hw1⟩ : ∃ w1, w1 = w.alloc (.cells #[v] 23) := ⟨_, rfl⟩
  have hk1 : Kp [] w w1 := by rw [hw1]; exact (Kp.refl [] w).alloc _
  have hX1 : w1.heap[n]? = some (.cells #[v] 23) := by rw [hw1, hn]; exact heap_new
  rw [← hn, ← hw1]
  have h1 : Nob w1 v := by
    rcases h with h | ⟨b, T, fr, h2, h3⟩
    · exact .inl h
    · exact .inr ⟨b, T, fr, h2, hk1.get h3 (by simp)⟩
  simp [-getElem?_pos, -Array.getElem?_eq_getElem, -List.length_flatten, List.getElem?_cons_zero, List.getElem?_cons_succ, hX1]
  refine ⟨fun _ => hK w1 hk1, fun h0 => nob_Size h1 ?_⟩
  simp [-getElem?_pos, -Array.getElem?_eq_getElem, -List.length_flatten, List.getElem?_cons_zero, List.getElem?_cons_succ, ]
  refine ⟨fun _ => hK w1 hk1, fun h2 => ⟨fun _ => hK w1 hk1, fun h3 => ?_⟩⟩
  exfalso; omega
/-- a log that nobody opened -/
def NobL (w : World) (v : Value) : Prop := v = .pointer none ∨ ∃ b T fr, v = .pointer (some ⟨b, 0, none⟩) ∧ w.heap[b]? = some (.cells #[.pointer none, .int .i64 0, .int .i64 0, .int .i64 0, .slice none 0 0, .string (str [])] T fr)
theorem NobL.keep {w w' : World} {v : Value} (h : NobL w v) (hk : Kp [] w w') : NobL w' v := by
  rcases h with h | ⟨b, T, fr, h2, h3⟩
  · exact .inl h
  · exact .inr ⟨b, T, fr, h2, hk.get h3 (by simp)⟩
section
variable {w : World} {v : Value} (h : NobL w v) {K : Value → World → Prop}
include h
theorem nobL_given (hK : K (.bool false) w) : callG Try.prog 60 #[v] w K := by
  refine wal_Log_given_call ?_
  rcases h with rfl | ⟨b, T, fr, rfl, hb⟩
  · simpa [wal_Log_given, wal_Log_given_s0] using hK
  · simpa [wal_Log_given, wal_Log_given_s0, hb] using hK
theorem nobL_Records (hK : K (.slice none 0 0) w) : callG Try.prog 37 #[v] w K := by
  refine wal_Log_Records_call ?_
  simp only [wal_Log_Records, wal_Log_Records_s0]
  refine nobL_given h ?_
  simp [-getElem?_pos, -Array.getElem?_eq_getElem, -List.length_flatten, List.getElem?_cons_zero, List.getElem?_cons_succ, ]
  exact hK
theorem nobL_Sync (hK : K (.int .i64 1) w) : callG Try.prog 39 #[v] w K := by
  refine wal_Log_Sync_call ?_
  simp only [wal_Log_Sync, wal_Log_Sync_s0]
  refine nobL_given h ?_
  simp [-getElem?_pos, -Array.getElem?_eq_getElem, -List.length_flatten, List.getElem?_cons_zero, List.getElem?_cons_succ, ]
  exact hK
theorem nobL_Used (hK : K (.int .i64 0) w) : callG Try.prog 38 #[v] w K := by
  refine wal_Log_Used_call ?_
  simp only [wal_Log_Used, wal_Log_Used_s0]
  refine nobL_given h ?_
  simp [-getElem?_pos, -Array.getElem?_eq_getElem, -List.length_flatten, List.getElem?_cons_zero, List.getElem?_cons_succ, ]
  exact hK
theorem nobL_Add (hv : Q.one v = true) (gv : Value) (hK : ∀ w', Kp [] w w' → K (.int .i64 1) w') : callG Try.prog 36 #[v, gv] w K := by
  refine wal_Log_Add_call ?_
  simp only [wal_Log_Add, wal_Log_Add_s5]
  rw [newG_k, cells_one hv]
  obtain ⟨w1, hw1⟩ : ∃ w1, w1 = w.alloc (.cells #[v] 64) := ⟨_, rfl⟩
  have hk1 : Kp [] w w1 := by rw [hw1]; exact (Kp.refl [] w).alloc _
  have hX1 : w1.heap[w.heap.size]? = some (.cells #[v] 64) := by rw [hw1]; exact heap_new
  rw [← hw1]
  simp only [ld1_p, rd1_mk, hX1]
  have hget : (#[v] : Array Value)[0]? = some v := rfl
  simp only [hget]
  refine nobL_given (h.keep hk1) ?_
  simp [-getElem?_pos, -Array.getElem?_eq_getElem, -List.length_flatten, List.getElem?_cons_zero, List.getElem?_cons_succ, ]
  exact hK w1 hk1
end
theorem nobody4_call {lo hi turn : Int} {w0 : World} {R : Value → World → Prop} (hR : ∀ w', Kp [] w0 w' → R (.bool true) w') : callG Try.prog 9 #[.int .i64 lo, .int .i64 hi, .int .i64 turn] w0 R := by
  refine law04_WalNobody_call ?_
  simp only [law04_WalNobody, law04_WalNobody_s5]
  refine Open_nob (.inl rfl) rfl lo hi turn fun w1 hk1 => ?_
  obtain ⟨z, hz⟩ : ∃ z : Array Value, z = #[.slice none 0 0, .slice none 0 0, .slice none 0 0, .int .i64 0, .bool false] := ⟨_, rfl⟩
  have hbld : ∀ K : Value → Prop, bld [(0, 1), (1, 1), (2, 1), (3, 1), (4, 1)] (zc Try.prog 56) #[] K = K (.agg z) := by intro K; rw [zc56, hz]; rfl
  rw [ex0, ex1, hbld, newG_k]
  have hcz : Value.cells (.agg z) = z := rfl
  rw [hcz]
  obtain ⟨w2, hw2⟩ : ∃ w2, w2 = w1.alloc (.cells z 56) := ⟨_, rfl⟩
  have hk2 : Kp [] w1 w2 := by rw [hw2]; exact (Kp.refl [] w1).alloc _
  have hz2 : w2.heap[w1.heap.size]? = some (.cells z 56) := by rw [hw2]; exact heap_new
  rw [← hw2]
  refine Open_nob (.inr ⟨_, 56, (0, 0), rfl, by rw [hz2, hz]⟩) rfl lo hi turn fun w3 hk3 => ?_
  rw [ex0, ex1]
  simp [-getElem?_pos, -Array.getElem?_eq_getElem, -List.length_flatten, List.getElem?_cons_zero, List.getElem?_cons_succ, ]
  unfold law04_WalNobody_s4
  obtain ⟨y, hy⟩ : ∃ y : Array Value, y = #[.pointer none, .int .i64 0, .int .i64 0, .int .i64 0, .slice none 0 0, .string (str [])] := ⟨_, rfl⟩
  have hbld2 : ∀ K : Value → Prop, bld [(0, 1), (1, 1), (2, 1), (3, 1), (4, 1), (5, 1)] (zc Try.prog 71) #[] K = K (.agg y) := by intro K; rw [zc71, hy]; rfl
  have hcy : Value.cells (.agg y) = y := rfl
  rw [hbld2, newG_k, hcy, bsl_two rfl rfl]
  obtain ⟨w4, hw4⟩ : ∃ w4, w4 = (w3.alloc (.cells y 71)).alloc (.cells #[.pointer none, .pointer (some ⟨w3.heap.size, 0, none⟩)] 64) := ⟨_, rfl⟩
  have hk4 : Kp [] w3 w4 := by rw [hw4]; exact ((Kp.refl [] w3).alloc _).alloc _
  have hss : (w3.alloc (.cells y 71)).heap.size = w3.heap.size + 1 := by simp
  have hsl : w4.heap[w3.heap.size + 1]? = some (.cells #[.pointer none, .pointer (some ⟨w3.heap.size, 0, none⟩)] 64) := by
    rw [hw4]; have := @heap_new (w3.alloc (.cells y 71)) (.cells #[.pointer none, .pointer (some ⟨w3.heap.size, 0, none⟩)] 64)
    simpa using this
  have hyb : w4.heap[w3.heap.size]? = some (.cells y 71) := by
    rw [hw4, heap_alloc, if_neg (by simp), heap_new]
  rw [← hw4, hss]
  have hk04 : Kp [] w0 w4 := ((hk1.trans' hk2).trans' hk3).trans' hk4
  simp only [law04_WalNobody_s3]
  unfold law04_WalNobody_L2
  refine loop_inv (fun m xs w => ∃ i : Nat, i ≤ 2 ∧ m = 2 - i ∧ xs = [.slice (some ⟨w3.heap.size + 1, 0, none⟩) 2 2, .int .i64 (i : Nat)] ∧ Kp [] w4 w)
    ?_ (m := 2) ⟨0, by omega, rfl, rfl, Kp.refl _ _⟩
  rintro m N xs w ⟨i, hi, rfl, rfl, hk⟩ hN
  simp only [law04_WalNobody_L2F, law04_WalNobody_b1, law04_WalNobody_s0, lenL_s, bq_lss, bV_b]
  refine ⟨fun hlt => ?_, fun _ => awake4_spec fun w' hk' => hR w' ((hk04.trans' hk).trans' hk')⟩
  have hlt : i < 2 := by simp at hlt; omega
  obtain ⟨c, hc⟩ : ∃ c : Array Value, c = #[.pointer none, .pointer (some ⟨w3.heap.size, 0, none⟩)] := ⟨_, rfl⟩
  obtain ⟨v, hv, hnb, hone⟩ : ∃ v, c[i]? = some v ∧ NobL w4 v ∧ Q.one v = true := by
    rw [hc]
    match i, hlt with
    | 0, _ => exact ⟨_, rfl, .inl rfl, rfl⟩
    | 1, _ => exact ⟨_, rfl, .inr ⟨_, 71, (0, 0), rfl, by rw [hyb, hy]⟩, rfl⟩
  rw [← hc] at hsl
  have hsl1 := hk.get hsl (by simp)
  have hiw : IntKind.i64.wrap ((i : Int) + 1) = ((i + 1 : Nat) : Int) := by rw [w64 (by omega) (by omega)]; simp
  have hlti : (i : Int) < 2 := by omega
  simp [-getElem?_pos, -Array.getElem?_eq_getElem, -List.length_flatten, List.getElem?_cons_zero, List.getElem?_cons_succ, hsl1, hv, hlti]
  refine nobL_Records (hnb.keep hk) ?_
  simp [-getElem?_pos, -Array.getElem?_eq_getElem, -List.length_flatten, List.getElem?_cons_zero, List.getElem?_cons_succ, hsl1, hv, hlti]
  rw [bsl_one rfl]
  obtain ⟨w5, hw5⟩ : ∃ w5, w5 = w.alloc (.cells #[.string ⟨#[120]⟩] 9) := ⟨_, rfl⟩
  have hk5 : Kp [] w w5 := by rw [hw5]; exact (Kp.refl [] w).alloc _
  rw [← hw5]
  have hk45 := hk.trans' hk5
  refine nobL_Add (hnb.keep hk45) hone _ fun w6 hk6 => ?_
  have hk46 := hk45.trans' hk6
  have hsl6 := hk46.get hsl (by simp)
  simp [-getElem?_pos, -Array.getElem?_eq_getElem, -List.length_flatten, List.getElem?_cons_zero, List.getElem?_cons_succ, hsl6, hv, hlti]
  refine nobL_Sync (hnb.keep hk46) ?_
  simp [-getElem?_pos, -Array.getElem?_eq_getElem, -List.length_flatten, List.getElem?_cons_zero, List.getElem?_cons_succ, hsl6, hv, hlti]
  refine nobL_Used (hnb.keep hk46) ?_
  simp [-getElem?_pos, -Array.getElem?_eq_getElem, -List.length_flatten, List.getElem?_cons_zero, List.getElem?_cons_succ, hiw]
  exact hN (2 - (i + 1)) _ _ (by omega) ⟨i + 1, by omega, rfl, rfl, hk46⟩
end Go.Proofs
