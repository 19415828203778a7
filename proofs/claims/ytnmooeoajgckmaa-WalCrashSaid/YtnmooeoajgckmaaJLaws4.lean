/- Part of the proof (JLaws4): an engine, rules or contracts of the functions; it states nothing of the claim by itself. -/
import Derived.Test.YtnmooeoajgckmaaJWal
import Derived.Test.YtnmooeoajgckmaaJText
import Derived.Test.YtnmooeoajgckmaaJDisk

/- WalFrames. -/
set_option linter.unusedVariables false
set_option linter.unusedSimpArgs false
namespace Go.Proofs
open Go Go.Q
theorem lenAt_frame (t : Int) (s : List UInt8) (h : s.length ≤ 1024) : lenAt (frameB t s) = s.length := by
  have h0 : (putB (s.length : Int) 0).toNat = s.length % 256 := by unfold putB; simp; omega
  have h1 : (putB (s.length : Int) 1).toNat = s.length / 256 % 256 := by unfold putB; simp; omega
  have e : lenAt (frameB t s) = (putB (s.length : Int) 0).toNat + (putB (s.length : Int) 1).toNat * 2 ^ 8 := by
    simp [lenAt, frameB, headOf, put4, List.getD]
  rw [e, h0, h1]; omega
theorem scan_frame (t : Int) (s : List UInt8) (h : (frame t s).2 = 0) : (frame t s).1.length = 10 + s.length ∧ scan t (frame t s).1 = [s] ∧ usedOf [s] = 10 + s.length := by
  have hc : turnOk t = true ∧ s ≠ [] ∧ s.length ≤ 1024 := by
    unfold frame at h
    split at h
    · assumption
    · simp at h
  have hf : frame t s = (frameB t s, 0) := by unfold frame; rw [if_pos hc]
  have hl := frameB_len t s
  have hs : s.length ≠ 0 := by simpa using hc.2.1
  have hla := lenAt_frame t s hc.2.2
  have hrec : recOf (frameB t s) = s := by
    unfold recOf
    rw [hla]
    have : (frameB t s).drop 10 = s := by
      unfold frameB
      rw [List.drop_left' (by simp [headOf_len, put4_len])]
    rw [this, List.take_length]
  have hok : nextOk t (frameB t s) = true := (next_frame t _).2 ⟨by omega, by omega, by omega, by omega, by
    rw [hrec, hf, hla, List.take_of_length_le (by omega)]⟩
  refine ⟨by rw [hf]; exact hl, ?_, by simp [usedOf]⟩
  rw [hf]
  show scan t (frameB t s) = [s]
  unfold scan
  obtain ⟨n, hn⟩ : ∃ n, (frameB t s).length = n + 1 := ⟨(frameB t s).length - 1, by omega⟩
  rw [hn]
  unfold scanL
  rw [if_pos hok, hrec, hla, List.drop_of_length_le (by omega)]
  have hnil : scanL t n [] = [] := by
    cases n with
    | zero => rfl
    | succ n => unfold scanL; rw [if_neg (by simp [nextOk])]
  rw [hnil]
theorem frames_call {w0 : World} {t : Int} {s bytes : List UInt8} {R : Value → World → Prop} (hR : ∀ w', Kp [] w0 w' → R (.bool true) w') : callG Try.prog 7 #[.int .i64 t, .string (str s), .string (str bytes)] w0 R := by
  refine law04_WalFrames_call ?_
  simp only [law04_WalFrames, law04_WalFrames_s2, lenS_s, str_size, bq_gtr, bV_b]
  have haw : ∀ w', Kp [] w0 w' → callG Try.prog 29 #[] w' fun t w => R t w := fun w' hk => awake4_spec fun w'' hk' => hR w'' (hk.trans' hk')
  refine ⟨fun _ => haw w0 (Kp.refl _ _), fun h1 => ⟨fun _ => haw w0 (Kp.refl _ _), fun h2 => ?_⟩⟩
  have h1 : s.length ≤ 2048 := by simp at h1; omega
  have h2 : bytes.length ≤ 1024 := by simp at h2; omega
  unfold law04_WalFrames_s1
  refine Frame_spec t s (by omega) fun w1 hk1 => ?_
  rw [ex0, ex1]
  refine refFrame_spec t s (by omega) fun w2 hk2 => ?_
  rw [ex0, ex1]
  refine Scan_spec t bytes (by omega) fun w3 v3 S3 hr3 hk3 hS3 => ?_
  rw [ex0, ex1]
  refine refScan_spec t bytes (by omega) fun w4 v4 S4 hr4 hk4 hS4 => ?_
  rw [ex0, ex1]
  have hk04 := ((hk1.trans' hk2).trans' hk3).trans' hk4
  have hul := scan_used t bytes
  have hll := usedOf_len (scan t bytes)
  simp [-getElem?_pos, -Array.getElem?_eq_getElem, -List.length_flatten, List.getElem?_cons_zero, List.getElem?_cons_succ, ]
  refine same_spec (.inr (hr3.keep hk4 (by simp)).rd) (.inr hr4.rd) (by omega) fun w5 hk5 => ?_
  simp [-getElem?_pos, -Array.getElem?_eq_getElem, -List.length_flatten, List.getElem?_cons_zero, List.getElem?_cons_succ, ]
  unfold law04_WalFrames_s0
  have hk05 := hk04.trans' hk5
  simp [-getElem?_pos, -Array.getElem?_eq_getElem, -List.length_flatten, List.getElem?_cons_zero, List.getElem?_cons_succ, ]
  refine ⟨fun he => haw w5 hk05, fun he => ?_⟩
  obtain ⟨f1, f2, f3⟩ := scan_frame t s he
  have hfl := frame_len_le t s
  refine Scan_spec t (frame t s).1 (by omega) fun w6 v6 S6 hr6 hk6 hS6 => ?_
  rw [ex0, ex1]
  rw [f2] at hr6
  rw [f2, f3]
  rw [bsl_one rfl]
  obtain ⟨w7, hw7⟩ : ∃ w7, w7 = w6.alloc (.cells #[.string (str s)] 9) := ⟨_, rfl⟩
  have hk7 : Kp [] w6 w7 := by rw [hw7]; exact (Kp.refl [] w6).alloc _
  have hb7 : w7.heap[w6.heap.size]? = some (.cells #[.string (str s)] 9) := by rw [hw7]; exact heap_new
  rw [← hw7]
  have hs7 : RdAt w7 (.slice (some ⟨w6.heap.size, 0, none⟩) 1 1) 1 ([s].map strV) [w6.heap.size] :=
    .inr ⟨_, 0, 1, _, _, _, rfl, rfl, hb7, by simp [strV], by simp, by simp [strV], by simp⟩
  refine same_spec (.inr (hr6.keep hk7 (by simp)).rd) (.inr hs7) (by simp) fun w8 hk8 => ?_
  have e1 : IntKind.i64.wrap (10 + (s.length : Int)) = 10 + (s.length : Int) := w64 (by omega) (by omega)
  have e2 : (((frame t s).1.length : Nat) : Int) = 10 + (s.length : Int) := by omega
  simp [-getElem?_pos, -Array.getElem?_eq_getElem, -List.length_flatten, List.getElem?_cons_zero, List.getElem?_cons_succ, e1, f1]
  exact haw w8 (((hk05.trans' hk6).trans' hk7).trans' hk8)
end Go.Proofs

/- WalNobody. -/
set_option linter.unusedVariables false
set_option linter.unusedSimpArgs false
namespace Go.Proofs
open Go Go.Q
theorem Open_nob {w : World} {v : Value} (h : Nob w v) (hv : Q.one v = true) (lo hi turn : Int) {K : Value → World → Prop} (hK : ∀ w', Kp [] w w' → K (.tuple #[.pointer none, .int .i64 1]) w') :
    callG Try.prog 35 #[v, .int .i64 lo, .int .i64 hi, .int .i64 turn] w K := by
  refine wal_Open_call ?_
  simp only [wal_Open, wal_Open_s1]
  rw [newG_k, cells_one hv]
  obtain ⟨n, hn⟩ : ∃ n, n = w.heap.size := ⟨_, rfl⟩
  obtain ⟨w1, hw1⟩ : ∃ w1, w1 = w.alloc (.cells #[v] 23) := ⟨_, rfl⟩
  have hk1 : Kp [] w w1 := by rw [hw1]; exact (Kp.refl [] w).alloc _
  have hX1 : w1.heap[n]? = some (.cells #[v] 23) := by rw [hw1, hn]; exact heap_new
  rw [← hn, ← hw1]
  have h1 : Nob w1 v := by
    rcases h with h | ⟨b, T, fr, h2, h3⟩
    · exact .inl h
    · exact .inr ⟨b, T, fr, h2, hk1.get h3 (by simp)⟩
  simp [-getElem?_pos, -Array.getElem?_eq_getElem, -List.length_flatten, List.getElem?_cons_zero, List.getElem?_cons_succ, hX1]
  refine ⟨fun _ => hK w1 hk1, fun h0 => nob_Size h1 ?_⟩
  simp [-getElem?_pos, -Array.getElem?_eq_getElem, -List.length_flatten, List.getElem?_cons_zero, List.getElem?_cons_succ, ]
  refine ⟨fun _ => hK w1 hk1, fun h2 => ⟨fun _ => hK w1 hk1, fun h3 => ?_⟩⟩
  exfalso; omega
/-- a log that nobody opened -/
def NobL (w : World) (v : Value) : Prop := v = .pointer none ∨ ∃ b T fr, v = .pointer (some ⟨b, 0, none⟩) ∧ w.heap[b]? = some (.cells #[.pointer none, .int .i64 0, .int .i64 0, .int .i64 0, .slice none 0 0, .string (str [])] T fr)
theorem NobL.keep {w w' : World} {v : Value} (h : NobL w v) (hk : Kp [] w w') : NobL w' v := by
  rcases h with h | ⟨b, T, fr, h2, h3⟩
  · exact .inl h
  · exact .inr ⟨b, T, fr, h2, hk.get h3 (by simp)⟩
section
variable {w : World} {v : Value} (h : NobL w v) {K : Value → World → Prop}
include h
theorem nobL_given (hK : K (.bool false) w) : callG Try.prog 60 #[v] w K := by
  refine wal_Log_given_call ?_
  rcases h with rfl | ⟨b, T, fr, rfl, hb⟩
  · simpa [wal_Log_given, wal_Log_given_s0] using hK
  · simpa [wal_Log_given, wal_Log_given_s0, hb] using hK
theorem nobL_Records (hK : K (.slice none 0 0) w) : callG Try.prog 37 #[v] w K := by
  refine wal_Log_Records_call ?_
  simp only [wal_Log_Records, wal_Log_Records_s0]
  refine nobL_given h ?_
  simp [-getElem?_pos, -Array.getElem?_eq_getElem, -List.length_flatten, List.getElem?_cons_zero, List.getElem?_cons_succ, ]
  exact hK
theorem nobL_Sync (hK : K (.int .i64 1) w) : callG Try.prog 39 #[v] w K := by
  refine wal_Log_Sync_call ?_
  simp only [wal_Log_Sync, wal_Log_Sync_s0]
  refine nobL_given h ?_
  simp [-getElem?_pos, -Array.getElem?_eq_getElem, -List.length_flatten, List.getElem?_cons_zero, List.getElem?_cons_succ, ]
  exact hK
theorem nobL_Used (hK : K (.int .i64 0) w) : callG Try.prog 38 #[v] w K := by
  refine wal_Log_Used_call ?_
  simp only [wal_Log_Used, wal_Log_Used_s0]
  refine nobL_given h ?_
  simp [-getElem?_pos, -Array.getElem?_eq_getElem, -List.length_flatten, List.getElem?_cons_zero, List.getElem?_cons_succ, ]
  exact hK
theorem nobL_Add (hv : Q.one v = true) (gv : Value) (hK : ∀ w', Kp [] w w' → K (.int .i64 1) w') : callG Try.prog 36 #[v, gv] w K := by
  refine wal_Log_Add_call ?_
  simp only [wal_Log_Add, wal_Log_Add_s5]
  rw [newG_k, cells_one hv]
  obtain ⟨w1, hw1⟩ : ∃ w1, w1 = w.alloc (.cells #[v] 64) := ⟨_, rfl⟩
  have hk1 : Kp [] w w1 := by rw [hw1]; exact (Kp.refl [] w).alloc _
  have hX1 : w1.heap[w.heap.size]? = some (.cells #[v] 64) := by rw [hw1]; exact heap_new
  rw [← hw1]
  simp only [ld1_p, rd1_mk, hX1]
  have hget : (#[v] : Array Value)[0]? = some v := rfl
  simp only [hget]
  refine nobL_given (h.keep hk1) ?_
  simp [-getElem?_pos, -Array.getElem?_eq_getElem, -List.length_flatten, List.getElem?_cons_zero, List.getElem?_cons_succ, ]
  exact hK w1 hk1
end
theorem nobody4_call {lo hi turn : Int} {w0 : World} {R : Value → World → Prop} (hR : ∀ w', Kp [] w0 w' → R (.bool true) w') : callG Try.prog 9 #[.int .i64 lo, .int .i64 hi, .int .i64 turn] w0 R := by
  refine law04_WalNobody_call ?_
  simp only [law04_WalNobody, law04_WalNobody_s5]
  refine Open_nob (.inl rfl) rfl lo hi turn fun w1 hk1 => ?_
  obtain ⟨z, hz⟩ : ∃ z : Array Value, z = #[.slice none 0 0, .slice none 0 0, .slice none 0 0, .int .i64 0, .bool false] := ⟨_, rfl⟩
  have hbld : ∀ K : Value → Prop, bld [(0, 1), (1, 1), (2, 1), (3, 1), (4, 1)] (zc Try.prog 56) #[] K = K (.agg z) := by intro K; rw [zc56, hz]; rfl
  rw [ex0, ex1, hbld, newG_k]
  have hcz : Value.cells (.agg z) = z := rfl
  rw [hcz]
  obtain ⟨w2, hw2⟩ : ∃ w2, w2 = w1.alloc (.cells z 56) := ⟨_, rfl⟩
  have hk2 : Kp [] w1 w2 := by rw [hw2]; exact (Kp.refl [] w1).alloc _
  have hz2 : w2.heap[w1.heap.size]? = some (.cells z 56) := by rw [hw2]; exact heap_new
  rw [← hw2]
  refine Open_nob (.inr ⟨_, 56, (0, 0), rfl, by rw [hz2, hz]⟩) rfl lo hi turn fun w3 hk3 => ?_
  rw [ex0, ex1]
  simp [-getElem?_pos, -Array.getElem?_eq_getElem, -List.length_flatten, List.getElem?_cons_zero, List.getElem?_cons_succ, ]
  unfold law04_WalNobody_s4
  obtain ⟨y, hy⟩ : ∃ y : Array Value, y = #[.pointer none, .int .i64 0, .int .i64 0, .int .i64 0, .slice none 0 0, .string (str [])] := ⟨_, rfl⟩
  have hbld2 : ∀ K : Value → Prop, bld [(0, 1), (1, 1), (2, 1), (3, 1), (4, 1), (5, 1)] (zc Try.prog 71) #[] K = K (.agg y) := by intro K; rw [zc71, hy]; rfl
  have hcy : Value.cells (.agg y) = y := rfl
  rw [hbld2, newG_k, hcy, bsl_two rfl rfl]
  obtain ⟨w4, hw4⟩ : ∃ w4, w4 = (w3.alloc (.cells y 71)).alloc (.cells #[.pointer none, .pointer (some ⟨w3.heap.size, 0, none⟩)] 64) := ⟨_, rfl⟩
  have hk4 : Kp [] w3 w4 := by rw [hw4]; exact ((Kp.refl [] w3).alloc _).alloc _
  have hss : (w3.alloc (.cells y 71)).heap.size = w3.heap.size + 1 := by simp
  have hsl : w4.heap[w3.heap.size + 1]? = some (.cells #[.pointer none, .pointer (some ⟨w3.heap.size, 0, none⟩)] 64) := by
    rw [hw4]; have := @heap_new (w3.alloc (.cells y 71)) (.cells #[.pointer none, .pointer (some ⟨w3.heap.size, 0, none⟩)] 64)
    simpa using this
  have hyb : w4.heap[w3.heap.size]? = some (.cells y 71) := by
    rw [hw4, heap_alloc, if_neg (by simp), heap_new]
  rw [← hw4, hss]
  have hk04 : Kp [] w0 w4 := ((hk1.trans' hk2).trans' hk3).trans' hk4
  simp only [law04_WalNobody_s3]
  unfold law04_WalNobody_L2
  refine loop_inv (fun m xs w => ∃ i : Nat, i ≤ 2 ∧ m = 2 - i ∧ xs = [.slice (some ⟨w3.heap.size + 1, 0, none⟩) 2 2, .int .i64 (i : Nat)] ∧ Kp [] w4 w)
    ?_ (m := 2) ⟨0, by omega, rfl, rfl, Kp.refl _ _⟩
  rintro m N xs w ⟨i, hi, rfl, rfl, hk⟩ hN
  simp only [law04_WalNobody_L2F, law04_WalNobody_b1, law04_WalNobody_s0, lenL_s, bq_lss, bV_b]
  refine ⟨fun hlt => ?_, fun _ => awake4_spec fun w' hk' => hR w' ((hk04.trans' hk).trans' hk')⟩
  have hlt : i < 2 := by simp at hlt; omega
  obtain ⟨c, hc⟩ : ∃ c : Array Value, c = #[.pointer none, .pointer (some ⟨w3.heap.size, 0, none⟩)] := ⟨_, rfl⟩
  obtain ⟨v, hv, hnb, hone⟩ : ∃ v, c[i]? = some v ∧ NobL w4 v ∧ Q.one v = true := by
    rw [hc]
    match i, hlt with
    | 0, _ => exact ⟨_, rfl, .inl rfl, rfl⟩
    | 1, _ => exact ⟨_, rfl, .inr ⟨_, 71, (0, 0), rfl, by rw [hyb, hy]⟩, rfl⟩
  rw [← hc] at hsl
  have hsl1 := hk.get hsl (by simp)
  have hiw : IntKind.i64.wrap ((i : Int) + 1) = ((i + 1 : Nat) : Int) := by rw [w64 (by omega) (by omega)]; simp
  have hlti : (i : Int) < 2 := by omega
  simp [-getElem?_pos, -Array.getElem?_eq_getElem, -List.length_flatten, List.getElem?_cons_zero, List.getElem?_cons_succ, hsl1, hv, hlti]
  refine nobL_Records (hnb.keep hk) ?_
  simp [-getElem?_pos, -Array.getElem?_eq_getElem, -List.length_flatten, List.getElem?_cons_zero, List.getElem?_cons_succ, hsl1, hv, hlti]
  rw [bsl_one rfl]
  obtain ⟨w5, hw5⟩ : ∃ w5, w5 = w.alloc (.cells #[.string ⟨#[120]⟩] 9) := ⟨_, rfl⟩
  have hk5 : Kp [] w w5 := by rw [hw5]; exact (Kp.refl [] w).alloc _
  rw [← hw5]
  have hk45 := hk.trans' hk5
  refine nobL_Add (hnb.keep hk45) hone _ fun w6 hk6 => ?_
  have hk46 := hk45.trans' hk6
  have hsl6 := hk46.get hsl (by simp)
  simp [-getElem?_pos, -Array.getElem?_eq_getElem, -List.length_flatten, List.getElem?_cons_zero, List.getElem?_cons_succ, hsl6, hv, hlti]
  refine nobL_Sync (hnb.keep hk46) ?_
  simp [-getElem?_pos, -Array.getElem?_eq_getElem, -List.length_flatten, List.getElem?_cons_zero, List.getElem?_cons_succ, hsl6, hv, hlti]
  refine nobL_Used (hnb.keep hk46) ?_
  simp [-getElem?_pos, -Array.getElem?_eq_getElem, -List.length_flatten, List.getElem?_cons_zero, List.getElem?_cons_succ, hiw]
  exact hN (2 - (i + 1)) _ _ (by omega) ⟨i + 1, by omega, rfl, rfl, hk46⟩
end Go.Proofs

/- Plain: the bytes of a disk's sectors; what Add writes; what a log's bytes scan to. -/
set_option linter.unusedVariables false
set_option linter.unusedSimpArgs false
namespace Go.Proofs
open Go Go.Q
/-- a byte of all sectors -/
def byteAt (L : List (List UInt8)) (p : Nat) : UInt8 := (L.getD (p / 32) []).getD (p % 32) 0
theorem getD_set {α : Type} (L : List α) (k i : Nat) (s z : α) (hk : k < L.length) : (L.set k s).getD i z = if i = k then s else L.getD i z := by
  simp only [List.getD_eq_getElem?_getD, List.getElem?_set]
  by_cases h : i = k
  · subst h; simp [hk]
  · rw [if_neg h, if_neg (by omega)]
theorem byteAt_set {L : List (List UInt8)} {k : Nat} {s : List UInt8} (hk : k < L.length) (p : Nat) : byteAt (L.set k s) p = if p / 32 = k then s.getD (p % 32) 0 else byteAt L p := by
  unfold byteAt
  rw [getD_set L k (p / 32) s [] hk]
  split <;> rfl
theorem byteAt_flat {L : List (List UInt8)} (h : ∀ x ∈ L, x.length = 32) (p : Nat) : L.flatten.getD p 0 = byteAt L p := by
  have hl := flat_len h
  unfold byteAt
  by_cases hp : p / 32 < L.length
  · have hg := flat_get h hp
    have h1 : L.getD (p / 32) [] = L[p / 32] := by simp [List.getD, hp]
    rw [h1, ← hg]
    simp only [List.getD_eq_getElem?_getD]
    rw [List.getElem?_take_of_lt (by omega), List.getElem?_drop]
    congr 2; omega
  · have h1 : L.getD (p / 32) [] = [] := by rw [List.getD_eq_getElem?_getD, List.getElem?_eq_none (by omega)]; rfl
    have e1 : L.flatten[p]? = none := List.getElem?_eq_none (by omega)
    rw [h1, List.getD_eq_getElem?_getD, e1]
    rfl
theorem byteAt_all {L : List (List UInt8)} (h : ∀ x ∈ L, x.length = 32) {M : List (List UInt8)} (hM : ∀ x ∈ M, x.length = 32) (hl : L.length = M.length) (he : ∀ p, byteAt L p = byteAt M p) : L.flatten = M.flatten := by
  apply List.ext_getElem?
  intro p
  have h1 := flat_len h
  have h2 := flat_len hM
  have h3 := byteAt_flat h p
  have h4 := byteAt_flat hM p
  rw [he] at h3
  rw [← h4] at h3
  by_cases hp : p < L.flatten.length
  · have hp2 : p < M.flatten.length := by rw [h2, ← hl, ← h1]; exact hp
    rw [List.getElem?_eq_getElem hp, List.getElem?_eq_getElem hp2]
    simp only [List.getD_eq_getElem?_getD, List.getElem?_eq_getElem hp, List.getElem?_eq_getElem hp2, Option.getD_some] at h3
    rw [h3]
  · have hp2 : ¬ p < M.flatten.length := by rw [h2, ← hl, ← h1]; exact hp
    rw [List.getElem?_eq_none (by omega), List.getElem?_eq_none (by omega)]
/-- what follows of a list whose bytes begin so -/
theorem pre_flat {L : List (List UInt8)} (h : ∀ x ∈ L, x.length = 32) {P : List UInt8} (hl : P.length ≤ 32 * L.length) (he : ∀ p, p < P.length → byteAt L p = P.getD p 0) : ∃ r, L.flatten = P ++ r := by
  have h1 := flat_len h
  refine ⟨L.flatten.drop P.length, ?_⟩
  apply List.ext_getElem?
  intro p
  by_cases hp : p < P.length
  · rw [List.getElem?_append_left hp]
    have h3 := byteAt_flat h p
    rw [he p hp] at h3
    have hp2 : p < L.flatten.length := by rw [h1]; omega
    rw [List.getElem?_eq_getElem hp, List.getElem?_eq_getElem hp2]
    simp only [List.getD_eq_getElem?_getD, List.getElem?_eq_getElem hp, List.getElem?_eq_getElem hp2, Option.getD_some] at h3
    rw [h3]
  · rw [List.getElem?_append_right (by omega), List.getElem?_drop]
    congr 1; omega

theorem secOf_getD {all : List UInt8} {k j : Nat} : (secOf all k).getD j 0 = if 32 * k + j < min (32 * k + 32) all.length then all.getD (32 * k + j) 0 else 0 := by
  unfold secOf
  simp only [List.getD_eq_getElem?_getD, List.getElem?_drop, List.getElem?_take]
  split <;> rfl
theorem secOf_len {all : List UInt8} {k : Nat} : (secOf all k).length = min (32 * k + 32) all.length - 32 * k := by simp [secOf]
/-- the bytes that are written -/
theorem sec_bytes {all was : List UInt8} {k j : Nat} (hj : j < 32) : (secOf all k ++ was.drop (secOf all k).length).getD j 0 = if 32 * k + j < all.length then all.getD (32 * k + j) 0 else was.getD j 0 := by
  have hl := secOf_len (all := all) (k := k)
  by_cases h : j < (secOf all k).length
  · have h1 := secOf_getD (all := all) (k := k) (j := j)
    rw [if_pos (by omega)] at h1
    rw [if_pos (by omega), ← h1]
    simp only [List.getD_eq_getElem?_getD]
    rw [List.getElem?_append_left h]
  · rw [if_neg (by omega)]
    simp only [List.getD_eq_getElem?_getD]
    rw [List.getElem?_append_right (by omega), List.getElem?_drop]
    congr 2; omega
structure PutOf (all : List UInt8) (d : DK) (k n : Nat) (r : DK × Int) : Prop where
  sure : r.1.sure = d.sure
  len : r.1.now.length = d.now.length
  rows : ∀ x ∈ r.1.now, x.length = 32
  wr : ∀ x ∈ r.1.l, x ∈ d.l ∨ ∀ j, j < 32 → 32 * x.1 + j < all.length → x.2.getD j 0 = all.getD (32 * x.1 + j) 0
  now : r.2 = 0 → ∀ p, byteAt r.1.now p = if 32 * k ≤ p ∧ p < 32 * (k + n) ∧ p < all.length then all.getD p 0 else byteAt d.now p
theorem putK_of {all : List UInt8} {d : DK} {k : Nat} (h : ∀ x ∈ d.now, x.length = 32) (hk : k < d.now.length) : PutOf all d k 1 (putK d 0 all k) := by
  have hr : (d.read ((0 + k : Nat) : Int)) = if d.off = true then ([], 30) else (d.now.getD k [], 0) := by
    unfold DK.read
    rw [if_pos ⟨by omega, by omega⟩]
    simp
  have hin : (d.now.getD k []).length = 32 := by simp only [List.getD, List.getElem?_eq_getElem hk, Option.getD_some]; exact h _ (List.getElem_mem hk)
  unfold putK
  rw [hr]
  by_cases ho : d.off = true
  · rw [if_pos ho, if_neg (by simp)]
    exact ⟨rfl, rfl, h, fun x hx => .inl hx, fun h => by simp at h⟩
  · rw [if_neg ho, if_pos rfl]
    simp only
    obtain ⟨b1, b2, b3⟩ := DK.burns_now d
    have hs : (secOf all k ++ (d.now.getD k []).drop (secOf all k).length).length = 32 := by
      rw [List.length_append, List.length_drop, hin, secOf_len]; omega
    unfold DK.write
    rw [if_pos ⟨⟨by omega, by omega⟩, hs⟩]
    by_cases hb : d.burns.2 = true
    · rw [if_pos hb]
      have hkn : (((0 + k : Nat) : Int)).toNat = k := by omega
      simp only [hkn]
      refine ⟨b3, by simp, ?_, ?_, ?_⟩
      · intro x hx
        rcases List.mem_or_eq_of_mem_set hx with h1 | h1
        · exact h x h1
        · rw [h1]; exact hs
      · intro x hx
        rw [List.mem_append] at hx
        rcases hx with h1 | h1
        · exact .inl h1
        · right
          simp only [List.mem_singleton] at h1
          subst h1
          intro j hj hlt
          simp only at hlt ⊢
          rw [sec_bytes hj, if_pos hlt]
      · intro _ p
        rw [byteAt_set hk]
        by_cases hp : p / 32 = k
        · rw [if_pos hp, sec_bytes (by omega)]
          have e : 32 * k + p % 32 = p := by omega
          rw [e]
          by_cases hl : p < all.length
          · rw [if_pos hl, if_pos ⟨by omega, by omega, hl⟩]
          · rw [if_neg hl, if_neg (by omega)]
            unfold byteAt
            rw [hp]
        · rw [if_neg hp, if_neg (by omega)]
    · rw [if_neg hb]
      exact ⟨b3, by simp [b1], by simpa [b1] using h, fun x hx => .inl (by simpa [b2] using hx), fun h => by simp at h⟩
theorem putN_of {all : List UInt8} : ∀ (n : Nat) {d : DK} {k : Nat}, (∀ x ∈ d.now, x.length = 32) → k + n ≤ d.now.length → PutOf all d k n (putN 0 all d k n) := by
  intro n
  induction n with
  | zero =>
    intro d k h hk
    exact ⟨rfl, rfl, h, fun x hx => .inl hx, fun _ p => by rw [if_neg (by omega)]; rfl⟩
  | succ n ih =>
    intro d k h hk
    have h1 := putK_of (all := all) h (k := k) (by omega)
    unfold putN
    by_cases h0 : (putK d 0 all k).2 = 0
    · rw [if_pos h0]
      have h2 := ih (d := (putK d 0 all k).1) (k := k + 1) h1.rows (by rw [h1.len]; omega)
      refine ⟨h2.sure.trans h1.sure, h2.len.trans h1.len, h2.rows, ?_, ?_⟩
      · intro x hx
        rcases h2.wr x hx with h3 | h3
        · exact h1.wr x h3
        · exact .inr h3
      · intro hz p
        rw [h2.now hz p, h1.now h0 p]
        by_cases c1 : 32 * (k + 1) ≤ p ∧ p < 32 * (k + 1 + n) ∧ p < all.length
        · rw [if_pos c1, if_pos (by omega)]
        · rw [if_neg c1]
          by_cases c2 : 32 * k ≤ p ∧ p < 32 * (k + 1) ∧ p < all.length
          · rw [if_pos c2, if_pos (by omega)]
          · rw [if_neg c2, if_neg (by omega)]
    · rw [if_neg h0]
      exact ⟨h1.sure, h1.len, h1.rows, h1.wr, fun hz => absurd hz h0⟩
/-! ### a disk whose power does not go off -/
structure Calm (d : DK) : Prop where
  off : d.off = false
  fuse : d.fuse = -1
theorem putK_calm {all : List UInt8} {d : DK} {k : Nat} (h : ∀ x ∈ d.now, x.length = 32) (hk : k < d.now.length) (c : Calm d) : (putK d 0 all k).2 = 0 ∧ Calm (putK d 0 all k).1 := by
  have hr : (d.read ((0 + k : Nat) : Int)) = (d.now.getD k [], 0) := by
    unfold DK.read
    rw [if_pos ⟨by omega, by omega⟩, if_neg (by rw [c.off]; simp)]
    simp
  have hin : (d.now.getD k []).length = 32 := by simp only [List.getD, List.getElem?_eq_getElem hk, Option.getD_some]; exact h _ (List.getElem_mem hk)
  have hs : (secOf all k ++ (d.now.getD k []).drop (secOf all k).length).length = 32 := by
    rw [List.length_append, List.length_drop, hin, secOf_len]; omega
  unfold putK
  rw [hr, if_pos rfl]
  simp only
  have hb : d.burns = (d, true) := burns_calm c.off c.fuse
  unfold DK.write
  rw [if_pos ⟨⟨by omega, by omega⟩, hs⟩, hb]
  exact ⟨rfl, c.off, c.fuse⟩
theorem putN_calm {all : List UInt8} : ∀ (n : Nat) {d : DK} {k : Nat}, (∀ x ∈ d.now, x.length = 32) → k + n ≤ d.now.length → Calm d → (putN 0 all d k n).2 = 0 ∧ Calm (putN 0 all d k n).1 := by
  intro n
  induction n with
  | zero => intro d k _ _ c; exact ⟨rfl, c⟩
  | succ n ih =>
    intro d k h hk c
    have h1 := putK_of (all := all) h (k := k) (by omega)
    obtain ⟨h2, h3⟩ := putK_calm (all := all) h (k := k) (by omega) c
    unfold putN
    rw [if_pos h2]
    exact ih h1.rows (by rw [h1.len]; omega) h3
theorem putN_l (lo : Nat) (all : List UInt8) : ∀ (n : Nat) (d : DK) (k : Nat), (putN lo all d k n).1.l.length ≤ d.l.length + n := by
  intro n
  induction n with
  | zero => intro d k; simp [putN]
  | succ n ih =>
    intro d k
    have h := putK_l d lo all k
    unfold putN
    split
    · have := ih (putK d lo all k).1 (k + 1); omega
    · omega
/-! ### records -/
def fr (t : Int) (l : List (List UInt8)) : List UInt8 := (l.map (frameB t)).flatten
theorem fr_append (t : Int) (a b : List (List UInt8)) : fr t (a ++ b) = fr t a ++ fr t b := by simp [fr]
theorem fr_cons (t : Int) (a : List UInt8) (b : List (List UInt8)) : fr t (a :: b) = frameB t a ++ fr t b := by simp [fr]
theorem fr_len (t : Int) (l : List (List UInt8)) : (fr t l).length = usedOf l := by
  induction l with
  | nil => rfl
  | cons a l ih => rw [fr_cons, List.length_append, ih, frameB_len]; simp [usedOf]
def Recs (l : List (List UInt8)) : Prop := ∀ s ∈ l, s ≠ [] ∧ s.length ≤ 1024
theorem frame_rec {t : Int} (ht : turnOk t = true) {s : List UInt8} (h : s ≠ [] ∧ s.length ≤ 1024) : frame t s = (frameB t s, 0) := by
  unfold frame; rw [if_pos ⟨ht, h⟩]
theorem addRun_fits {t room : Int} (ht : turnOk t = true) : ∀ (l : List (List UInt8)) (b : List UInt8), Recs l → (b.length : Int) + (usedOf l : Nat) ≤ room → addRun t room l b false = (0, b ++ fr t l, false) := by
  intro l
  induction l with
  | nil => intro b _ _; simp [addRun, fr]
  | cons s l ih =>
    intro b h hl
    have hs := frame_rec ht (h s (by simp))
    have hu : usedOf (s :: l) = 10 + s.length + usedOf l := by simp [usedOf]
    rw [hu] at hl
    have hfl := frameB_len t s
    rw [addRun_cons, hs, if_pos rfl, if_neg (by simp; omega), ih _ (fun x hx => h x (by simp [hx])) (by rw [List.length_append]; simp only; omega), fr_cons]
    simp
/-- a record's bytes in front: it is scanned -/
theorem scanL_frame {t : Int} (ht : turnOk t = true) {s : List UInt8} (h : s ≠ [] ∧ s.length ≤ 1024) (r : List UInt8) : nextOk t (frameB t s ++ r) = true ∧ recOf (frameB t s ++ r) = s ∧ lenAt (frameB t s ++ r) = s.length := by
  have hl := frameB_len t s
  have hla := lenAt_frame t s h.2
  have hs : s.length ≠ 0 := by simpa using h.1
  have hgd : ∀ i, i < (frameB t s).length → (frameB t s ++ r).getD i 0 = (frameB t s).getD i 0 := by
    intro i hi
    simp only [List.getD_eq_getElem?_getD]
    rw [List.getElem?_append_left hi]
  have hla2 : lenAt (frameB t s ++ r) = s.length := by
    rw [← hla]
    unfold lenAt
    rw [hgd 4 (by omega), hgd 5 (by omega)]
  have hrec : recOf (frameB t s ++ r) = s := by
    unfold recOf
    rw [hla2, List.drop_append_of_le_length (by omega), List.take_append_of_le_length (by rw [List.length_drop]; omega)]
    have : (frameB t s).drop 10 = s := by
      unfold frameB
      rw [List.drop_left' (by simp [headOf_len, put4_len])]
    rw [this, List.take_length]
  refine ⟨?_, hrec, hla2⟩
  refine (next_frame t _).2 ⟨by rw [List.length_append]; omega, by omega, by omega, by rw [List.length_append]; omega, ?_⟩
  rw [hrec, hla2, frame_rec ht h, List.take_append_of_le_length (by omega), List.take_of_length_le (by omega)]
theorem scanL_fuel (t : Int) : ∀ (n m : Nat) (s : List UInt8), s.length ≤ n → s.length ≤ m → scanL t n s = scanL t m s := by
  intro n
  induction n with
  | zero =>
    intro m s h _
    have : s = [] := List.length_eq_zero_iff.1 (by omega)
    subst this
    cases m with
    | zero => rfl
    | succ m => unfold scanL; rw [if_neg (by simp [nextOk])]
  | succ n ih =>
    intro m s h1 h2
    cases m with
    | zero =>
      have : s = [] := List.length_eq_zero_iff.1 (by omega)
      subst this
      unfold scanL; rw [if_neg (by simp [nextOk])]
    | succ m =>
      unfold scanL
      split
      · rw [ih m _ (by rw [List.length_drop]; omega) (by rw [List.length_drop]; omega)]
      · rfl
theorem scan_fr {t : Int} (ht : turnOk t = true) : ∀ (l : List (List UInt8)) (r : List UInt8), Recs l → scan t (fr t l ++ r) = l ++ scan t r := by
  intro l
  induction l with
  | nil => intro r _; rfl
  | cons s l ih =>
    intro r h
    have hs := h s (by simp)
    obtain ⟨h1, h2, h3⟩ := scanL_frame ht hs (fr t l ++ r)
    have hl := frameB_len t s
    have hi := ih r fun x hx => h x (by simp [hx])
    have key : scan t (frameB t s ++ (fr t l ++ r)) = s :: scan t (fr t l ++ r) := by
      unfold scan
      obtain ⟨n, hn⟩ : ∃ n, (frameB t s ++ (fr t l ++ r)).length = n + 1 := ⟨(frameB t s ++ (fr t l ++ r)).length - 1, by rw [List.length_append]; omega⟩
      have hn' : (fr t l ++ r).length ≤ n := by rw [List.length_append] at hn; omega
      rw [hn]
      conv => lhs; unfold scanL
      rw [if_pos h1, h2, h3, List.drop_left' hl, scanL_fuel t n _ _ hn' (Nat.le_refl _)]
    rw [fr_cons, List.append_assoc, key, hi]
    rfl
end Go.Proofs

/- Layer 4: a log on a disk of the call's own; Add on a calm disk. -/
set_option linter.unusedVariables false
set_option linter.unusedSimpArgs false
namespace Go.Proofs
open Go Go.Q
/-- a log at 'a' on a disk at 'b', both of the call's own -/
structure OL (w0 w : World) (a b : Nat) (g : LG) (d : DK) (B : List Nat) : Prop where
  ex : ∃ S SL lv, B = a :: (SL ++ S) ∧ DiskAt w b d S ∧ LogIs w a b g SL lv ∧ a ∉ S ∧ ∀ x ∈ SL, x ∉ S
  kp : Kp [] w0 w
  new : ∀ x ∈ B, w0.heap.size ≤ x
theorem DiskAt.live {w : World} {b : Nat} {d : DK} {S : List Nat} (h : DiskAt w b d S) : ∀ x ∈ S, x < w.heap.size := by
  obtain ⟨bs, bn, lv, SL, T, Ts, Tn, rfl, hd⟩ := h
  exact hd.live
theorem DiskAt.ok {w : World} {b : Nat} {d : DK} {S : List Nat} (h : DiskAt w b d S) : d.Ok := by
  obtain ⟨bs, bn, lv, SL, T, Ts, Tn, rfl, hd⟩ := h
  exact hd.ok
section
variable {w0 w w' : World} {a b : Nat} {g : LG} {d : DK} {B : List Nat}
theorem OL.live (h : OL w0 w a b g d B) : ∀ x ∈ B, x < w.heap.size := by
  obtain ⟨S, SL, lv, rfl, hd, hL, h1, h2⟩ := h.ex
  intro x hx
  rcases List.mem_cons.1 hx with rfl | hx
  · exact lt_of_blk hL.1
  · rcases List.mem_append.1 hx with hx | hx
    · exact hL.2.1.lt x hx
    · exact hd.live x hx
theorem OL.keep (h : OL w0 w a b g d B) {S' : List Nat} (hk : Kp S' w w') (hd : ∀ x ∈ B, x ∉ S') (h0 : Kp [] w0 w') : OL w0 w' a b g d B := by
  obtain ⟨S, SL, lv, rfl, hd', hL, h1, h2⟩ := h.ex
  exact ⟨⟨S, SL, lv, rfl, hd'.keep hk fun x hx => hd x (by simp [hx]), hL.keep hk (hd a (by simp)) fun x hx => hd x (by simp [hx]), h1, h2⟩, h0, h.new⟩
theorem OL.keep0 (h : OL w0 w a b g d B) (hk : Kp [] w w') : OL w0 w' a b g d B := h.keep hk (by simp) (h.kp.trans' hk)
theorem OL.ok (h : OL w0 w a b g d B) : d.Ok := by
  obtain ⟨S, SL, lv, rfl, hd, hL, h1, h2⟩ := h.ex
  exact hd.ok
theorem OL.turn {S' : List Nat} (h : OL w0 w a b g d B) (hk : Kp S' w w') (hS : ∀ x ∈ S', x ∈ B) : Kp [] w0 w' := h.kp.trans hk fun x hx hlt => by have := h.new x (hS x hx); omega
theorem ol_add (h : OL w0 w a b g d B) {gv : Value} {group : List (List UInt8)} {SG : List Nat} (hgv : ArgAt w gv 1 (group.map strV) SG) (hGS : ∀ x ∈ SG, x ∉ B) (hGl : ∀ x ∈ SG, x < w.heap.size) {lo hi : Nat}
    (hgl : g.l.length + group.length < 2 ^ 39) (hgs : ∀ s ∈ group, s.length < 2 ^ 62) (hlo : g.lo = (lo : Int)) (hhi : g.hi = (hi : Int)) (hlh : lo ≤ hi) (hhi2 : hi ≤ 4096) (hroom : (g.used.length : Int) ≤ 32 * (hi - lo)) (hdl : d.l.length < 2 ^ 39) {K : Value → World → Prop}
    (hK : ∀ w' B', OL w0 w' a b (addG g d group).1 (addG g d group).2.1 B' → Kp B w w' → (∀ x ∈ B', x ∈ B ∨ w.heap.size ≤ x) → K (.int .i64 (addG g d group).2.2) w') :
    callG Try.prog 36 #[.pointer (some ⟨a, 0, none⟩), gv] w K := by
  have hlv := h.live
  have hkp := h.kp
  have hnew := h.new
  obtain ⟨S, SL, lv, rfl, hd, hL, h1, h2⟩ := h.ex
  refine Add_spec (lo := lo) (hi := hi) hL hd hgv h1 h2 (fun x hx hm => hGS x hx (by simp [hm])) (fun x hx => ?_) hgl hgs hlo hhi hlh hhi2 hroom hdl fun w' g' d' e S' SL' lv' hres hL' hd' hS' hSL' hLS' haS' hk' => ?_
  · rcases List.mem_append.1 hx with hx | hx
    · exact hlv x (by simpa using Or.inr (by simpa using hx))
    · exact hGl x hx
  · have e1 : (addG g d group).1 = g' := by rw [← hres]
    have e2 : (addG g d group).2.1 = d' := by rw [← hres]
    have e3 : (addG g d group).2.2 = e := by rw [← hres]
    rw [e1, e2, e3] at hK
    have hsz := hkp.size
    refine hK w' (a :: (SL' ++ S')) ⟨⟨S', SL', lv', rfl, hd', hL', haS', hLS'⟩, hkp.trans hk' fun x hx hlt => by have := hnew x hx; omega, fun x hx => ?_⟩ hk' (fun x hx => ?_)
    · rcases List.mem_cons.1 hx with rfl | hx
      · exact hnew _ (by simp)
      · rcases List.mem_append.1 hx with hx | hx
        · rcases hSL' x hx with h | h
          · exact hnew x (by simp [h])
          · omega
        · rcases hS' x hx with h | h
          · exact hnew x (by simp [h])
          · omega
    · rcases List.mem_cons.1 hx with rfl | hx
      · exact .inl (by simp)
      · rcases List.mem_append.1 hx with hx | hx
        · exact (hSL' x hx).imp (fun h => by simp [h]) id
        · exact (hS' x hx).imp (fun h => by simp [h]) id
theorem ol_records (h : OL w0 w a b g d B) (hl : g.l.length < 2 ^ 40) {K : Value → World → Prop}
    (hK : ∀ w' v' S', RowsAt w' v' 1 (g.l.map strV) S' → Kp [] w w' → (∀ y ∈ S', w.heap.size ≤ y) → K v' w') : callG Try.prog 37 #[.pointer (some ⟨a, 0, none⟩)] w K := by
  obtain ⟨S, SL, lv, rfl, hd, hL, h1, h2⟩ := h.ex
  exact Records_spec hL hl hK
theorem ol_used (h : OL w0 w a b g d B) {K : Value → World → Prop} (hK : K (.int .i64 g.used.length) w) : callG Try.prog 38 #[.pointer (some ⟨a, 0, none⟩)] w K := by
  obtain ⟨S, SL, lv, rfl, hd, hL, h1, h2⟩ := h.ex
  exact Used_spec hL hK
theorem ol_sync (h : OL w0 w a b g d B) (hl : d.l.length < 2 ^ 40) {K : Value → World → Prop}
    (hK : ∀ w', OL w0 w' a b g d.flush.1 B → Kp B w w' → K (.int .i64 d.flush.2) w') : callG Try.prog 39 #[.pointer (some ⟨a, 0, none⟩)] w K := by
  have hT := @OL.turn w0 w
  have h' := h
  obtain ⟨S, SL, lv, rfl, hd, hL, h1, h2⟩ := h.ex
  refine Sync_spec hL hd hl fun w' hd' hk' => ?_
  have hkB : Kp (a :: (SL ++ S)) w w' := hk'.mono fun x hx _ => by simp [hx]
  exact hK w' ⟨⟨S, SL, lv, rfl, hd', hL.keep hk' h1 h2, h1, h2⟩, hT h' hkB (fun x hx => hx), h'.new⟩ hkB
theorem ol_read (h : OL w0 w a b g d B) (at_ : Int) {K : Value → World → Prop}
    (hK : K (.tuple #[.string (str (d.read at_).1), .int .i64 (d.read at_).2]) w) : callG Try.prog 17 #[.pointer (some ⟨b, 0, none⟩), .int .i64 at_] w K := by
  obtain ⟨S, SL, lv, rfl, hd, hL, h1, h2⟩ := h.ex
  exact Read_spec hd at_ hK
theorem ol_open {S : List Nat} (o : Own w0 w b d S) (hoff : d.off = false) {lo hi : Nat} (hlh : lo < hi) (hhi : hi ≤ d.now.length) {turn : Int} (ht : turnOk turn = true) {K : Value → World → Prop}
    (hK : ∀ w' a B, OL w0 w' a b ⟨lo, hi, turn, scan turn (allOf d lo (hi - lo)), (allOf d lo (hi - lo)).take (usedOf (scan turn (allOf d lo (hi - lo))))⟩ d B → Kp [] w w' → (∀ x ∈ B, x ∈ S ∨ w.heap.size ≤ x) → (∀ x ∈ S, x ∈ B) →
      K (.tuple #[.pointer (some ⟨a, 0, none⟩), .int .i64 0]) w') : callG Try.prog 35 #[.pointer (some ⟨b, 0, none⟩), .int .i64 lo, .int .i64 hi, .int .i64 turn] w K := by
  refine Open_ok o.at_ hoff hlh hhi ht fun w' a lv SL hL hk ha hSL => ?_
  have hlS := o.at_.live
  have hs := o.kp.size
  refine hK w' a (a :: (SL ++ S)) ⟨⟨S, SL, lv, rfl, o.at_.keep hk (by simp), hL, fun hm => by have := hlS a hm; omega, fun x hx hm => by have := hlS x hm; have := hSL x hx; omega⟩, o.kp.trans' hk, fun x hx => ?_⟩ hk (fun x hx => ?_) (fun x hx => by simp [hx])
  · rcases List.mem_cons.1 hx with rfl | hx
    · omega
    · rcases List.mem_append.1 hx with hx | hx
      · have := hSL x hx; omega
      · exact o.new x hx
  · rcases List.mem_cons.1 hx with rfl | hx
    · exact .inr ha
    · rcases List.mem_append.1 hx with hx | hx
      · exact .inr (hSL x hx)
      · exact .inl hx
end
/-- a log on a calm disk of noughts, that has such records -/
structure GS (n : Nat) (g : LG) (d : DK) (l : List (List UInt8)) : Prop where
  g : g = ⟨0, n, 1, l, fr 1 l⟩
  calm : Calm d
  len : d.now.length = n
  rows : ∀ x ∈ d.now, x.length = 32
  bytes : ∀ p, byteAt d.now p = (fr 1 l).getD p 0
theorem turn1 : turnOk 1 = true := by decide
theorem getD_app {x y : List UInt8} {p : Nat} (h : p < x.length) : (x ++ y).getD p 0 = x.getD p 0 := by
  simp only [List.getD_eq_getElem?_getD]; rw [List.getElem?_append_left h]
theorem getD_over {x : List UInt8} {p : Nat} (h : ¬ p < x.length) : x.getD p 0 = 0 := by
  rw [List.getD_eq_getElem?_getD, List.getElem?_eq_none (by omega)]; rfl
theorem addG_gs {n : Nat} {g : LG} {d : DK} {l grp : List (List UInt8)} (h : GS n g d l) (hr : Recs grp) (hu : usedOf l + usedOf grp ≤ 32 * n) :
    (addG g d grp).2.2 = 0 ∧ GS n (addG g d grp).1 (addG g d grp).2.1 (l ++ grp) ∧ (addG g d grp).2.1.l.length ≤ d.l.length + (n + 1) := by
  have hg := h.g
  have hul : (fr 1 l).length = usedOf l := fr_len 1 l
  have hug : (fr 1 grp).length = usedOf grp := fr_len 1 grp
  have hroom : roomOf g = 32 * (n : Int) - (usedOf l : Nat) := by rw [hg]; unfold roomOf; simp only [hul]; omega
  have ht : g.turn = 1 := by rw [hg]
  have hrun := addRun_fits (t := 1) (room := roomOf g) turn1 grp [] hr (by rw [hroom]; simp; omega)
  have hused : g.used = fr 1 l := by rw [hg]
  obtain ⟨P, hP⟩ : ∃ P, P = (if 0 < (fr 1 grp).length then putN 0 (fr 1 l ++ fr 1 grp) d ((fr 1 l).length / 32) (((fr 1 l ++ fr 1 grp).length + 31) / 32 - (fr 1 l).length / 32) else (d, 0)) := ⟨_, rfl⟩
  have hlo : g.lo.toNat = 0 := by rw [hg]; rfl
  have hgl : g.l = l := by rw [hg]
  have hadd : addG g d grp = if P.2 = 0 then ({ g with l := l ++ grp, used := fr 1 l ++ fr 1 grp }, P.1, 0) else (g, P.1, P.2) := by
    unfold addG
    rw [ht, hrun, hlo, hused, hgl, hP]
    simp
  have hfin : P.2 = 0 ∧ Calm P.1 ∧ P.1.now.length = n ∧ (∀ x ∈ P.1.now, x.length = 32) ∧ (∀ p, byteAt P.1.now p = (fr 1 l ++ fr 1 grp).getD p 0) ∧ P.1.l.length ≤ d.l.length + (n + 1) := by
    by_cases h0 : 0 < (fr 1 grp).length
    · rw [if_pos h0] at hP
      have hk : (fr 1 l).length / 32 + (((fr 1 l ++ fr 1 grp).length + 31) / 32 - (fr 1 l).length / 32) ≤ d.now.length := by rw [h.len, List.length_append]; omega
      have c := putN_calm (all := fr 1 l ++ fr 1 grp) _ h.rows hk h.calm
      have o := putN_of (all := fr 1 l ++ fr 1 grp) _ h.rows hk
      have hlen := putN_l 0 (fr 1 l ++ fr 1 grp) (((fr 1 l ++ fr 1 grp).length + 31) / 32 - (fr 1 l).length / 32) d ((fr 1 l).length / 32)
      rw [← hP] at c o hlen
      refine ⟨c.1, c.2, o.len.trans h.len, o.rows, fun p => ?_, by rw [List.length_append] at hlen; omega⟩
      rw [o.now c.1 p, h.bytes p]
      split
      · rfl
      · rename_i hn
        by_cases hp : p < (fr 1 l).length
        · rw [getD_app hp]
        · rw [getD_over hp, getD_over]
          rw [List.length_append] at hn ⊢
          omega
    · rw [if_neg h0] at hP
      have hnil : fr 1 grp = [] := List.length_eq_zero_iff.1 (by omega)
      rw [hP, hnil, List.append_nil]
      exact ⟨rfl, h.calm, h.len, h.rows, h.bytes, by simp only; omega⟩
  obtain ⟨f1, f2, f3, f4, f5, f6⟩ := hfin
  rw [if_pos f1] at hadd
  rw [hadd]
  exact ⟨rfl, ⟨by rw [hg, fr_append], f2, f3, f4, by rw [fr_append]; exact f5⟩, f6⟩
theorem now_eq {L M : List (List UInt8)} (h : ∀ x ∈ L, x.length = 32) (hM : ∀ x ∈ M, x.length = 32) (hl : L.length = M.length) (he : ∀ p, byteAt L p = byteAt M p) : L = M := by
  have hf := byteAt_all h hM hl he
  apply List.ext_getElem hl
  intro i h1 h2
  rw [← flat_get h h1, ← flat_get hM h2, hf]
theorem gs_now {n : Nat} {g g' : LG} {d d' : DK} {l : List (List UInt8)} (h : GS n g d l) (h' : GS n g' d' l) : d.now = d'.now :=
  now_eq h.rows h'.rows (by rw [h.len, h'.len]) fun p => by rw [h.bytes, h'.bytes]
theorem scan_zero (n : Nat) : scan 1 (List.replicate n 0) = [] := by
  unfold scan
  cases n with
  | zero => rfl
  | succ n =>
    have hl : (List.replicate (n + 1) (0 : UInt8)).length = n + 1 := by simp
    rw [hl]
    unfold scanL
    rw [if_neg]
    intro h
    obtain ⟨_, h2, _⟩ := (next_frame 1 _).1 h
    have : lenAt (List.replicate (n + 1) 0) = 0 := by
      have hz : ∀ i, (List.replicate (n + 1) (0 : UInt8)).getD i 0 = 0 := by
        intro i
        simp only [List.getD_eq_getElem?_getD, List.getElem?_replicate]
        split <;> rfl
      unfold lenAt
      rw [hz, hz]; rfl
    omega
theorem fresh_flat (n : Nat) : (secs0 n).flatten = List.replicate (32 * n) 0 := by
  induction n with
  | zero => rfl
  | succ n ih => unfold secs0 at ih ⊢; rw [List.replicate_succ, List.flatten_cons, ih, List.replicate_append_replicate]; congr 1; omega
theorem fresh_all (n : Nat) : allOf (DK.fresh n) 0 (n - 0) = List.replicate (32 * n) 0 := by
  unfold allOf DK.fresh
  simp only [List.drop_zero, Nat.sub_zero]
  rw [List.take_of_length_le (by simp [secs0]), fresh_flat]
theorem gs_fresh (n : Nat) : GS n ⟨0, n, 1, [], []⟩ (DK.fresh n) [] := by
  have hrows : ∀ x ∈ (DK.fresh n).now, x.length = 32 := by intro x hx; simp only [DK.fresh, secs0, List.mem_replicate] at hx; rw [hx.2]; simp
  refine ⟨rfl, ⟨rfl, rfl⟩, by simp [DK.fresh, secs0], hrows, fun p => ?_⟩
  rw [← byteAt_flat hrows]
  show (secs0 n).flatten.getD p 0 = ([] : List UInt8).getD p 0
  rw [fresh_flat]
  simp only [List.getD_eq_getElem?_getD, List.getElem?_replicate]
  split <;> rfl
/-- a fresh disk, and its log -/
theorem ol_new {w0 w : World} (hk0 : Kp [] w0 w) {n : Nat} (h1 : 1 ≤ n) (h2 : n ≤ 4096) {b : Nat} {S : List Nat} (o : Own w0 w b (DK.fresh n) S) {K : Value → World → Prop}
    (hK : ∀ w' a B, OL w0 w' a b ⟨0, n, 1, [], []⟩ (DK.fresh n) B → Kp [] w w' → (∀ x ∈ B, x ∈ S ∨ w.heap.size ≤ x) → (∀ x ∈ S, x ∈ B) → K (.tuple #[.pointer (some ⟨a, 0, none⟩), .int .i64 0]) w') :
    callG Try.prog 35 #[.pointer (some ⟨b, 0, none⟩), .int .i64 0, .int .i64 n, .int .i64 1] w K := by
  refine ol_open (lo := 0) (hi := n) o rfl (by omega) (by simp [DK.fresh, secs0]) turn1 fun w' a B hO hk hB hS => ?_
  rw [fresh_all, scan_zero] at hO
  exact hK w' a B hO hk hB hS
end Go.Proofs

/- WalGroups. -/
set_option linter.unusedVariables false
set_option linter.unusedSimpArgs false
namespace Go.Proofs
open Go Go.Q
theorem usedOf_append (a b : List (List UInt8)) : usedOf (a ++ b) = usedOf a + usedOf b := by simp [usedOf]
theorem usedOf_le {l : List (List UInt8)} {k : Nat} (h : ∀ s ∈ l, s.length ≤ k) : usedOf l ≤ (10 + k) * l.length := by
  induction l with
  | nil => simp [usedOf]
  | cons s l ih =>
    have h1 := ih fun x hx => h x (by simp [hx])
    have h2 := h s (by simp)
    simp only [usedOf, List.map_cons, List.sum_cons, List.length_cons] at h1 ⊢
    rw [Nat.mul_succ]; omega
theorem strV_flat (l : List (List UInt8)) : (l.map strV).flatten = l.map fun s => Value.string (str s) := by
  induction l with
  | nil => rfl
  | cons s l ih => rw [List.map_cons, List.flatten_cons, ih]; rfl
/-- two logs, apart -/
structure Two (w0 w : World) (a b a2 b2 : Nat) (g g2 : LG) (d d2 : DK) (B B2 : List Nat) : Prop where
  x : OL w0 w a b g d B
  y : OL w0 w a2 b2 g2 d2 B2
  apart : ∀ z ∈ B, z ∉ B2
section
variable {w0 : World} {a b a2 b2 : Nat} {R : Value → World → Prop} {x0 : Value} {part : Int} {l : List (List UInt8)} {SA : List Nat}
theorem Two.keep0 {w w' : World} {g g2 : LG} {d d2 : DK} {B B2 : List Nat} (t : Two w0 w a b a2 b2 g g2 d d2 B B2) (hk : Kp [] w w') : Two w0 w' a b a2 b2 g g2 d d2 B B2 := ⟨t.x.keep0 hk, t.y.keep0 hk, t.apart⟩
theorem groups_s3 (hR : ∀ w', Kp [] w0 w' → R (.bool true) w') {w : World} {g g2 : LG} {d d2 : DK} {B B2 : List Nat} (t : Two w0 w a b a2 b2 g g2 d d2 B B2) (h1 : GS 40 g d l) (h2 : GS 40 g2 d2 l) :
    law04_WalGroups_s3 R (.pointer (some ⟨b, 0, none⟩)) (.pointer (some ⟨b2, 0, none⟩)) w := by
  have hnow := gs_now h1 h2
  unfold law04_WalGroups_s3 law04_WalGroups_L2
  refine loop_inv (fun m xs wi => ∃ i, i ≤ 40 ∧ m = 40 - i ∧ xs = [.pointer (some ⟨b, 0, none⟩), .pointer (some ⟨b2, 0, none⟩), .int .i64 (i : Nat)] ∧ wi = w) ?_ (m := 40) ⟨0, by omega, rfl, rfl, rfl⟩
  rintro m N xs wi ⟨i, hi, rfl, rfl, rfl⟩ hN
  simp only [law04_WalGroups_L2F, law04_WalGroups_b1, bq_lss, bV_b]
  refine ⟨fun hlt => ?_, fun hge => ?_⟩
  · have hi : i < 40 := by simp at hlt; omega
    have hiw : IntKind.i64.wrap ((i : Int) + 1) = ((i + 1 : Nat) : Int) := by rw [w64 (by omega) (by omega)]; simp
    have r1 : d.read (i : Int) = (d.now.getD i [], 0) := by
      unfold DK.read; rw [if_pos ⟨by omega, by rw [h1.len]; omega⟩, if_neg (by rw [h1.calm.off]; simp), Int.toNat_natCast]
    have r2 : d2.read (i : Int) = (d2.now.getD i [], 0) := by
      unfold DK.read; rw [if_pos ⟨by omega, by rw [h2.len]; omega⟩, if_neg (by rw [h2.calm.off]; simp), Int.toNat_natCast]
    refine ol_read t.x _ ?_
    rw [ex0, ex1]
    refine ol_read t.y _ ?_
    rw [ex0, ex1, r1, r2, ← hnow]
    simp [-getElem?_pos, -Array.getElem?_eq_getElem, -List.length_flatten, List.getElem?_cons_zero, List.getElem?_cons_succ, hiw]
    exact hN (40 - (i + 1)) _ _ (by omega) ⟨i + 1, by omega, rfl, rfl, rfl⟩
  · unfold law04_WalGroups_s0
    exact awake4_spec fun w' hk => hR w' (t.x.kp.trans' hk)
theorem groups_s4 (hR : ∀ w', Kp [] w0 w' → R (.bool true) w') {w : World} {g g2 : LG} {d d2 : DK} {B B2 : List Nat} (t : Two w0 w a b a2 b2 g g2 d d2 B B2) (h1 : GS 40 g d []) (h2 : GS 40 g2 d2 l)
    (hx : ArgAt w0 x0 1 (l.map strV) SA) (hSA : ∀ z ∈ SA, z < w0.heap.size) (hl : l.length ≤ 8) (hr : ∀ s ∈ l, s ≠ [] ∧ s.length ≤ 60) (hd1 : d.l.length < 2 ^ 20) :
    law04_WalGroups_s4 R x0 (.int .i64 part) (.pointer (some ⟨b, 0, none⟩)) (.pointer (some ⟨b2, 0, none⟩)) (.pointer (some ⟨a, 0, none⟩)) (.pointer (some ⟨a2, 0, none⟩)) w := by
  unfold law04_WalGroups_s4
  have hx1 := hx.keep t.x.kp (by simp)
  have hm0 : 0 ≤ part % 256 := Int.emod_nonneg _ (by omega)
  have hw1 : IntKind.i64.wrap ((l.length : Int) + 1) = (l.length : Int) + 1 := w64 (by omega) (by omega)
  simp only [and255, hx1.lenL, List.length_map, bq_add, hw1]
  rw [rem_of hm0 (by omega)]
  obtain ⟨k, hk⟩ : ∃ k : Nat, part % 256 % ((l.length : Int) + 1) = (k : Int) := ⟨(part % 256 % ((l.length : Int) + 1)).toNat, by have := Int.emod_nonneg (part % 256) (show (l.length : Int) + 1 ≠ 0 by omega); omega⟩
  have hkl : k ≤ l.length := by have := Int.emod_lt_of_pos (part % 256) (show (0 : Int) < (l.length : Int) + 1 by omega); omega
  rw [hk]
  have hrecs : ∀ m : List (List UInt8), (∀ s ∈ m, s ∈ l) → Recs m := fun m hm s hs => ⟨(hr s (hm s hs)).1, by have := (hr s (hm s hs)).2; omega⟩
  have hul := usedOf_le fun s hs => (hr s hs).2
  have hsplit := usedOf_append (l.take k) (l.drop k)
  rw [List.take_append_drop] at hsplit
  obtain ⟨v1, hv1, hs1⟩ := hx1.take (p := k) (by simpa using hkl) (kd := .i64)
  rw [hs1]
  rw [← List.map_take] at hv1
  have hnew := t.x.new
  have hne : ∀ z ∈ SA, z ∉ B := fun z hz hm => by have := hSA z hz; have := hnew z hm; omega
  have hne2 : ∀ z ∈ SA, z ∉ B2 := fun z hz hm => by have := hSA z hz; have := t.y.new z hm; omega
  have hsz := t.x.kp.size
  have hg : g = ⟨0, 40, 1, [], fr 1 []⟩ := h1.g
  obtain ⟨p1, p2, p3⟩ := addG_gs h1 (hrecs (l.take k) fun s hs => List.mem_of_mem_take hs) (by have : usedOf [] = 0 := rfl; omega)
  refine ol_add t.x (lo := 0) (hi := 40) hv1 hne (fun z hz => by have := hSA z hz; omega) (by rw [hg]; simp <;> omega) (fun s hs => by have := (hr s (List.mem_of_mem_take hs)).2; omega) (by rw [hg]; try rfl) (by rw [hg]; try rfl) (by omega) (by omega) (by rw [hg]; simp [fr]) (by omega) fun w1 B1 o1 hk1 hB1 => ?_
  rw [p1]
  have y1 := t.y.keep hk1 (fun z hz hm => t.apart z hm hz) o1.kp
  have ap1 : ∀ z ∈ B1, z ∉ B2 := fun z hz hm => by
    rcases hB1 z hz with h | h
    · exact t.apart z h hm
    · have := t.y.live z hm; omega
  rw [List.nil_append] at p2
  have hx2 := hx.keep o1.kp (by simp)
  obtain ⟨v2, hv2, hs2⟩ := hx2.drop (p := k) (by simpa using hkl) (kd := .i64)
  simp [-getElem?_pos, -Array.getElem?_eq_getElem, -List.length_flatten, List.getElem?_cons_zero, List.getElem?_cons_succ, ]
  rw [hs2]
  rw [← List.map_drop] at hv2
  have hne' : ∀ z ∈ SA, z ∉ B1 := fun z hz hm => by have := hSA z hz; have := o1.new z hm; omega
  have hsz1 := o1.kp.size
  have hg1 := p2.g
  obtain ⟨q1, q2, q3⟩ := addG_gs p2 (hrecs (l.drop k) fun s hs => List.mem_of_mem_drop hs) (by omega)
  refine ol_add o1 (lo := 0) (hi := 40) hv2 hne' (fun z hz => by have := hSA z hz; omega) (by rw [hg1]; simp only [List.length_take, List.length_drop]; omega) (fun s hs => by have := (hr s (List.mem_of_mem_drop hs)).2; omega) (by rw [hg1]; try rfl) (by rw [hg1]; try rfl) (by omega) (by omega) (by rw [hg1]; simp only [fr_len]; omega) (by omega) fun w2 B3 o2 hk2 hB2 => ?_
  rw [q1]
  rw [List.take_append_drop] at q2
  have y2 := y1.keep hk2 (fun z hz hm => ap1 z hm hz) o2.kp
  have ap2 : ∀ z ∈ B3, z ∉ B2 := fun z hz hm => by
    rcases hB2 z hz with h | h
    · exact ap1 z h hm
    · have := y1.live z hm; omega
  simp [-getElem?_pos, -Array.getElem?_eq_getElem, -List.length_flatten, List.getElem?_cons_zero, List.getElem?_cons_succ, ]
  have hgl := q2.g
  have hgl2 := h2.g
  have hL2 : (addG (addG g d (l.take k)).1 (addG g d (l.take k)).2.1 (l.drop k)).1.l = l := by rw [hgl]
  refine ol_records o2 (by rw [hL2]; omega) fun w3 v3 S3 hr3 hk3 hS3 => ?_
  rw [hL2] at hr3
  have hk03 := o2.kp.trans' hk3
  refine same_spec (.inr hr3.rd) (hx.keep hk03 (by simp)) (by omega) fun w4 hk4 => ?_
  have o4 := o2.keep0 (hk3.trans' hk4)
  have y4 := y2.keep0 (hk3.trans' hk4)
  simp [-getElem?_pos, -Array.getElem?_eq_getElem, -List.length_flatten, List.getElem?_cons_zero, List.getElem?_cons_succ, ]
  have hL3 : g2.l = l := by rw [hgl2]
  refine ol_records y4 (by rw [hL3]; omega) fun w5 v5 S5 hr5 hk5 hS5 => ?_
  rw [hL3] at hr5
  refine same_spec (.inr hr5.rd) (hx.keep (y4.kp.trans' hk5) (by simp)) (by omega) fun w6 hk6 => ?_
  have o6 := o4.keep0 (hk5.trans' hk6)
  have y6 := y4.keep0 (hk5.trans' hk6)
  simp [-getElem?_pos, -Array.getElem?_eq_getElem, -List.length_flatten, List.getElem?_cons_zero, List.getElem?_cons_succ, ]
  refine ol_used o6 ?_
  refine ol_used y6 ?_
  have hu1 : (addG (addG g d (l.take k)).1 (addG g d (l.take k)).2.1 (l.drop k)).1.used.length = g2.used.length := by rw [hgl, hgl2]
  simp [-getElem?_pos, -Array.getElem?_eq_getElem, -List.length_flatten, List.getElem?_cons_zero, List.getElem?_cons_succ, hu1]
  exact groups_s3 hR ⟨o6, y6, ap2⟩ q2 h2
theorem groups_loop (hR : ∀ w', Kp [] w0 w' → R (.bool true) w') {w : World} {g g2 : LG} {d d2 : DK} {B B2 : List Nat} (t : Two w0 w a b a2 b2 g g2 d d2 B B2) (h1 : GS 40 g d []) (h2 : GS 40 g2 d2 [])
    (hx : ArgAt w0 x0 1 (l.map strV) SA) (hSA : ∀ z ∈ SA, z < w0.heap.size) (hl : l.length ≤ 8) (hd1 : d.l.length < 2 ^ 20) (hd2 : d2.l.length = 0) :
    law04_WalGroups_L9 R x0 (.int .i64 part) (.pointer (some ⟨b, 0, none⟩)) (.pointer (some ⟨b2, 0, none⟩)) (.pointer (some ⟨a, 0, none⟩)) (.pointer (some ⟨a2, 0, none⟩)) (.int .i64 0) w := by
  unfold law04_WalGroups_L9
  refine loop_inv (fun m xs wi => ∃ i g2 d2 B2, i ≤ l.length ∧ m = l.length - i ∧ xs = [x0, .int .i64 part, .pointer (some ⟨b, 0, none⟩), .pointer (some ⟨b2, 0, none⟩), .pointer (some ⟨a, 0, none⟩), .pointer (some ⟨a2, 0, none⟩), .int .i64 (i : Nat)] ∧
      Two w0 wi a b a2 b2 g g2 d d2 B B2 ∧ GS 40 g2 d2 (l.take i) ∧ d2.l.length ≤ 41 * i ∧ ∀ s ∈ l.take i, s ≠ [] ∧ s.length ≤ 60) ?_ (m := l.length) ⟨0, g2, d2, B2, by omega, rfl, rfl, t, by simpa using h2, by omega, by simp⟩
  rintro m N xs wi ⟨i, gi, di, Bi, hi, rfl, rfl, ti, hgs, hdi, hri⟩ hN
  have hxi := hx.keep ti.x.kp (by simp)
  simp only [law04_WalGroups_L9F, law04_WalGroups_s8, hxi.lenL, List.length_map, bq_lss, bV_b]
  refine ⟨fun hlt => ?_, fun hge => ?_⟩
  · have hi : i < l.length := by simpa using hlt
    have hiw : IntKind.i64.wrap ((i : Int) + 1) = ((i + 1 : Nat) : Int) := by rw [w64 (by omega) (by omega)]; simp
    obtain ⟨bl, o, T, c, fr', _, hh, hia, _, _, hc⟩ := hxi.at (i := i) (by simpa using hi)
    have hs : c[o]? = some (.string (str l[i])) := by have := hc 0 (by omega); simpa [strV] using this
    have haw : ∀ w', Kp [] w0 w' → callG Try.prog 29 #[] w' fun t w => R t w := fun w' hk => awake4_spec fun w'' hk' => hR w'' (hk.trans' hk')
    unfold law04_WalGroups_s7
    have hnil : (⟨#[]⟩ : ByteArray) = str [] := rfl
    simp [-getElem?_pos, -Array.getElem?_eq_getElem, -List.length_flatten, List.getElem?_cons_zero, List.getElem?_cons_succ, hia, hh, hs, hnil]
    refine ⟨fun _ => haw _ ti.x.kp, fun h60 => ⟨fun _ => haw _ ti.x.kp, fun hne => ?_⟩⟩
    have hg := hgs.g
    unfold law04_WalGroups_s6
    simp only [bq_add, hiw]
    obtain ⟨v1, hv1, hs1⟩ : ∃ v', ArgAt wi v' 1 ([l[i]].map strV) SA ∧ ∀ K, slL 1 x0 (some (.int .i64 i)) (some (.int .i64 ((i + 1 : Nat) : Int))) K = K v' := by
      rcases hxi with ⟨_, _, _, h⟩ | h
      · rw [List.map_eq_nil_iff] at h; rw [h] at hi; simp at hi
      · rcases h with ⟨_, h⟩ | ⟨bl, o, cap, c, T, fr, g1, g2, g3, g4, g5, g6, g7⟩
        · rw [List.map_eq_nil_iff] at h; rw [h] at hi; simp at hi
        · rw [List.length_map] at g1 g5 g6 g7
          have hcap : ¬ cap = i := by omega
          refine ⟨.slice (some ⟨bl, o + i * 1, none⟩) 1 (cap - i), .inr (.inr ⟨bl, o + i * 1, cap - i, c, T, fr, rfl, g2, g3, by simp [strV], by simp; omega, ?_, by simp; omega⟩), fun K => ?_⟩
          · rw [Nat.mul_one] at g6 ⊢
            rw [strV_flat] at g6
            simp only [List.length_map, List.length_cons, List.length_nil, List.map_cons, List.map_nil, List.flatten_cons, List.flatten_nil, strV, List.append_nil, Nat.mul_one, Nat.zero_add]
            rw [← List.drop_drop]
            have : ((c.toList.drop o).drop i).take 1 = (((c.toList.drop o).take l.length).drop i).take 1 := by
              rw [List.drop_take, List.take_take, Nat.min_eq_left (by omega)]
            rw [this, g6]
            rw [List.drop_eq_getElem_cons (by simpa using hi)]
            simp
          · rw [g1]
            have h1 : ((i : Int) + 1) ≤ cap := by omega
            simp only [slL_p, bnd_some, Int.toNat_natCast]
            have e1 : i + 1 - i = 1 := by omega
            have e2 : Option.map (fun x : Addr => x.add (i * 1)) (some ⟨bl, o, none⟩) = some ⟨bl, o + i * 1, none⟩ := by simp [add_mk]
            rw [e1, if_neg hcap, e2]
            exact propext ⟨fun h => h.2.2, fun h => ⟨⟨by omega, by omega⟩, ⟨by omega, by omega⟩, h⟩⟩
    rw [hs1]
    have hrec : Recs [l[i]] := by intro s hs; simp only [List.mem_singleton] at hs; rw [hs]; exact ⟨hne, by omega⟩
    have hut := usedOf_le fun s hs => (hri s hs).2
    have htl : (l.take i).length = i := by rw [List.length_take]; omega
    rw [htl] at hut
    have hu1 : usedOf [l[i]] = 10 + l[i].length := by simp [usedOf]
    obtain ⟨p1, p2, p3⟩ := addG_gs hgs hrec (by omega)
    have hsz := ti.x.kp.size
    refine ol_add ti.y (lo := 0) (hi := 40) hv1 (fun z hz hm => by have := hSA z hz; have := ti.y.new z hm; omega) (fun z hz => by have := hSA z hz; omega) (by rw [hg]; simp only [htl, List.length_cons, List.length_nil]; omega) (by simp <;> omega) (by rw [hg]; try rfl) (by rw [hg]; try rfl) (by omega) (by omega) (by rw [hg]; simp only [fr_len]; omega) (by omega) fun w1 B1 o1 hk1 hB1 => ?_
    rw [p1]
    unfold law04_WalGroups_s5
    simp [-getElem?_pos, -Array.getElem?_eq_getElem, -List.length_flatten, List.getElem?_cons_zero, List.getElem?_cons_succ, hiw]
    have hx1 := ti.x.keep hk1 (fun z hz => ti.apart z hz) o1.kp
    have htk : l.take i ++ [l[i]] = l.take (i + 1) := (List.take_succ_eq_append_getElem hi).symm
    rw [htk] at p2
    refine hN (l.length - (i + 1)) _ _ (by omega) ⟨i + 1, _, _, B1, by omega, rfl, rfl, ⟨hx1, o1, fun z hz hm => ?_⟩, p2, by omega, ?_⟩
    · rcases hB1 z hm with h | h
      · exact ti.apart z hz h
      · have := ti.x.live z hz; omega
    · rw [← htk]
      intro s hs
      rcases List.mem_append.1 hs with h | h
      · exact hri s h
      · simp only [List.mem_singleton] at h; rw [h]; exact ⟨hne, by omega⟩
  · have hie : i = l.length := by simp at hge; omega
    rw [hie, List.take_length] at hgs hri
    exact groups_s4 hR ti h1 hgs hx hSA hl hri hd1
theorem groups_call (hR : ∀ w', Kp [] w0 w' → R (.bool true) w') (hx : ArgAt w0 x0 1 (l.map strV) SA) (hSA : ∀ z ∈ SA, z < w0.heap.size) : callG Try.prog 8 #[x0, .int .i64 part] w0 R := by
  refine law04_WalGroups_call ?_
  simp only [law04_WalGroups, law04_WalGroups_s13]
  refine New_ok (n := 40) (by omega) (by omega) fun w1 b S1 d1 hk1 hS1 => ?_
  rw [ex0, ex1]
  refine New_ok (n := 40) (by omega) (by omega) fun w2 b2 S2 d2 hk2 hS2 => ?_
  rw [ex0, ex1]
  have hk02 := hk1.trans' hk2
  have hsz1 := hk1.size
  have hsz2 := hk2.size
  have hl1 := d1.live
  have o1 : Own w0 w2 b (DK.fresh 40) S1 := ⟨d1.keep hk2 (by simp), hk02, hS1⟩
  refine ol_new hk02 (n := 40) (by omega) (by omega) o1 fun w3 a B1 ol1 hk3 hB1 hB1' => ?_
  rw [ex0, ex1]
  have hsz3 := hk3.size
  have o2 : Own w0 w3 b2 (DK.fresh 40) S2 := ⟨d2.keep hk3 (by simp), hk02.trans' hk3, fun z hz => by have := hS2 z hz; omega⟩
  refine ol_new (hk02.trans' hk3) (n := 40) (by omega) (by omega) o2 fun w4 a2 B2 ol2 hk4 hB2 hB2' => ?_
  rw [ex0, ex1]
  have hl2 := d2.live
  have hlB1 := ol1.live
  have t : Two w0 w4 a b a2 b2 _ _ _ _ B1 B2 := ⟨ol1.keep0 hk4, ol2, fun z hz hm => by
    rcases hB2 z hm with h | h
    · have h2 := hl2 z h
      have h3 := hS2 z h
      rcases hB1 z hz with h4 | h4
      · have := hl1 z h4; omega
      · omega
    · have := hlB1 z hz; omega⟩
  have hxi := hx.keep (hk02.trans' (hk3.trans' hk4)) (by simp)
  unfold law04_WalGroups_s12
  simp [-getElem?_pos, -Array.getElem?_eq_getElem, -List.length_flatten, List.getElem?_cons_zero, List.getElem?_cons_succ, hxi.lenL]
  unfold law04_WalGroups_s11
  by_cases hl : l.length ≤ 8
  · have h8 : ¬ (8 : Int) < l.length := by omega
    simp [-getElem?_pos, -Array.getElem?_eq_getElem, -List.length_flatten, List.getElem?_cons_zero, List.getElem?_cons_succ, h8]
    exact groups_loop hR t (gs_fresh 40) (gs_fresh 40) hx hSA hl (by simp [DK.fresh]) (by simp [DK.fresh])
  · have h8 : (8 : Int) < l.length := by omega
    simp [-getElem?_pos, -Array.getElem?_eq_getElem, -List.length_flatten, List.getElem?_cons_zero, List.getElem?_cons_succ, h8]
    exact awake4_spec fun w' hk' => hR w' (t.x.kp.trans' hk')
end
end Go.Proofs

/- Plain: what a power failure leaves of a log. -/
set_option linter.unusedVariables false
set_option linter.unusedSimpArgs false
namespace Go.Proofs
open Go Go.Q
/-- whatever survives begins so -/
structure CW (d : DK) (P : List UInt8) : Prop where
  sure : ∀ p, p < P.length → byteAt d.sure p = P.getD p 0
  wr : ∀ x ∈ d.l, ∀ j, j < 32 → 32 * x.1 + j < P.length → x.2.getD j 0 = P.getD (32 * x.1 + j) 0
theorem take_app_getD {m s : List UInt8} {k j : Nat} (hm : m.length = 32) (hs : s.length = 32) (hk : k ≤ 32) : (m.take k ++ s.drop k).getD j 0 = if j < k then m.getD j 0 else s.getD j 0 := by
  simp only [List.getD_eq_getElem?_getD]
  by_cases h : j < k
  · rw [if_pos h, List.getElem?_append_left (by rw [List.length_take]; omega), List.getElem?_take_of_lt h]
  · rw [if_neg h, List.getElem?_append_right (by rw [List.length_take]; omega), List.getElem?_drop, List.length_take]
    congr 2; omega
theorem crashL_rows {n : Nat} : ∀ {l : List (Nat × List UInt8)} {ks : List Int} {L : List (List UInt8)}, L.length = n → (∀ x ∈ L, x.length = 32) → (∀ x ∈ l, x.1 < n ∧ x.2.length = 32) →
    (crashL l ks L).length = n ∧ ∀ x ∈ crashL l ks L, x.length = 32 := by
  intro l
  induction l with
  | nil => intro ks L hn hL _; exact ⟨hn, hL⟩
  | cons x l ih =>
    intro ks L hn hL hl
    cases ks with
    | nil => exact ⟨hn, hL⟩
    | cons k ks =>
      obtain ⟨h1, h2⟩ := hl x (by simp)
      have hx : (L.getD x.1 []).length = 32 := by
        simp only [List.getD, List.getElem?_eq_getElem (show x.1 < L.length by omega), Option.getD_some]; exact hL _ (List.getElem_mem _)
      refine ih (by simpa using hn) (fun y hy => ?_) fun y hy => hl y (by simp [hy])
      rcases List.mem_or_eq_of_mem_set hy with h | h
      · exact hL y h
      · rw [h, List.length_append, List.length_take, List.length_drop, h2, hx]; omega
theorem crashL_pre {n : Nat} {P : List UInt8} : ∀ {l : List (Nat × List UInt8)} {ks : List Int} {L : List (List UInt8)}, L.length = n → (∀ x ∈ L, x.length = 32) → (∀ x ∈ l, x.1 < n ∧ x.2.length = 32) →
    (∀ p, p < P.length → byteAt L p = P.getD p 0) → (∀ x ∈ l, ∀ j, j < 32 → 32 * x.1 + j < P.length → x.2.getD j 0 = P.getD (32 * x.1 + j) 0) → ∀ p, p < P.length → byteAt (crashL l ks L) p = P.getD p 0 := by
  intro l
  induction l with
  | nil => intro ks L _ _ _ h _; exact h
  | cons x l ih =>
    intro ks L hn hL hl hp hw
    cases ks with
    | nil => exact hp
    | cons k ks =>
      obtain ⟨h1, h2⟩ := hl x (by simp)
      have hx : (L.getD x.1 []).length = 32 := by
        simp only [List.getD, List.getElem?_eq_getElem (show x.1 < L.length by omega), Option.getD_some]; exact hL _ (List.getElem_mem _)
      refine ih (by simpa using hn) (fun y hy => ?_) (fun y hy => hl y (by simp [hy])) (fun p hlt => ?_) fun y hy => hw y (by simp [hy])
      · rcases List.mem_or_eq_of_mem_set hy with h | h
        · exact hL y h
        · rw [h, List.length_append, List.length_take, List.length_drop, h2, hx]; omega
      · rw [byteAt_set (by omega)]
        by_cases hk : p / 32 = x.1
        · rw [if_pos hk, take_app_getD h2 hx (by omega)]
          have e : 32 * x.1 + p % 32 = p := by omega
          split
          · rw [hw x (by simp) (p % 32) (by omega) (by omega), e]
          · have := hp p hlt
            unfold byteAt at this
            rw [hk] at this
            exact this
        · rw [if_neg hk]
          exact hp p hlt
theorem CW.crash {d : DK} {P : List UInt8} (h : CW d P) (ok : d.Ok) (ks : List Int) : ∀ p, p < P.length → byteAt (d.crash ks).now p = P.getD p 0 :=
  crashL_pre (n := d.now.length) ok.len ok.sz1 ok.szl h.sure h.wr
theorem CW.put {d : DK} {P all : List UInt8} (h : CW d P) (hp : ∃ r, all = P ++ r) {k n : Nat} {r : DK × Int} (o : PutOf all d k n r) : CW r.1 P := by
  obtain ⟨q, rfl⟩ := hp
  refine ⟨fun p hp => by rw [o.sure]; exact h.sure p hp, fun x hx j hj hlt => ?_⟩
  rcases o.wr x hx with h1 | h1
  · exact h.wr x h1 j hj hlt
  · rw [h1 j hj (by rw [List.length_append]; omega), getD_app hlt]
theorem putK_syn {d : DK} (h : Syn d) (lo : Nat) (all : List UInt8) (k : Nat) : Syn (putK d lo all k).1 := by
  unfold putK
  split
  · exact (syn_write h _ _).1
  · exact h
theorem putN_syn (lo : Nat) (all : List UInt8) : ∀ (n : Nat) {d : DK} {k : Nat}, Syn d → Syn (putN lo all d k n).1 := by
  intro n
  induction n with
  | zero => intro d k h; exact h
  | succ n ih =>
    intro d k h
    unfold putN
    split
    · exact ih (putK_syn h lo all k)
    · exact putK_syn h lo all k
/-- a log on a disk, some of whose records are sure -/
structure CS (g : LG) (d : DK) (l : List (List UInt8)) (n : Nat) : Prop where
  g : g = ⟨0, 40, 1, l, fr 1 l⟩
  len : d.now.length = 40
  now : ∀ p, p < (fr 1 l).length → byteAt d.now p = (fr 1 l).getD p 0
  syn : Syn d
  cw : CW d (fr 1 (l.take n))
  n : n ≤ l.length
theorem fr_take (t : Int) (l : List (List UInt8)) (n : Nat) : fr t l = fr t (l.take n) ++ fr t (l.drop n) := by rw [← fr_append, List.take_append_drop]
/-- one record more -/
theorem cs_add {g : LG} {d : DK} {l : List (List UInt8)} {n : Nat} (h : CS g d l n) (ok : d.Ok) {s : List UInt8} (hs : s ≠ [] ∧ s.length ≤ 1024) (hlen : (fr 1 l).length ≤ 1280) :
    ((addG g d [s]).2.2 = 0 → CS (addG g d [s]).1 (addG g d [s]).2.1 (l ++ [s]) n ∧ (fr 1 (l ++ [s])).length ≤ 1280) ∧ CW (addG g d [s]).2.1 (fr 1 (l.take n)) ∧ (addG g d [s]).2.1.l.length ≤ d.l.length + 42 ∧ (addG g d [s]).2.1.now.length = 40 := by
  have hg := h.g
  have hroom : roomOf g = 1280 - ((fr 1 l).length : Int) := by rw [hg]; unfold roomOf; simp only; omega
  have ht : g.turn = 1 := by rw [hg]
  have hused : g.used = fr 1 l := by rw [hg]
  have hlo : g.lo.toNat = 0 := by rw [hg]; rfl
  have hgl : g.l = l := by rw [hg]
  have hfb := frameB_len 1 s
  have hf1 : fr 1 [s] = frameB 1 s := by simp [fr]
  by_cases hfit : (10 + s.length : Int) ≤ roomOf g
  · have hrun := addRun_fits (t := 1) (room := roomOf g) turn1 [s] [] (by intro x hx; simp only [List.mem_singleton] at hx; rw [hx]; exact hs) (by simp [usedOf]; omega)
    rw [List.nil_append, hf1] at hrun
    obtain ⟨P, hP⟩ : ∃ P, P = putN 0 (fr 1 l ++ frameB 1 s) d ((fr 1 l).length / 32) (((fr 1 l ++ frameB 1 s).length + 31) / 32 - (fr 1 l).length / 32) := ⟨_, rfl⟩
    have hadd : addG g d [s] = if P.2 = 0 then ({ g with l := l ++ [s], used := fr 1 l ++ frameB 1 s }, P.1, 0) else (g, P.1, P.2) := by
      unfold addG
      rw [ht, hrun, hlo, hused, hgl, hP]
      have : 0 < (frameB 1 s).length := by omega
      simp [this]
    have hk : (fr 1 l).length / 32 + (((fr 1 l ++ frameB 1 s).length + 31) / 32 - (fr 1 l).length / 32) ≤ d.now.length := by rw [h.len, List.length_append]; omega
    have o := putN_of (all := fr 1 l ++ frameB 1 s) _ ok.sz2 hk
    have hl := putN_l 0 (fr 1 l ++ frameB 1 s) (((fr 1 l ++ frameB 1 s).length + 31) / 32 - (fr 1 l).length / 32) d ((fr 1 l).length / 32)
    have hsy := putN_syn 0 (fr 1 l ++ frameB 1 s) (((fr 1 l ++ frameB 1 s).length + 31) / 32 - (fr 1 l).length / 32) (k := (fr 1 l).length / 32) h.syn
    rw [← hP] at o hl hsy
    have hcw : CW P.1 (fr 1 (l.take n)) := h.cw.put ⟨fr 1 (l.drop n) ++ frameB 1 s, by rw [← List.append_assoc, ← fr_take]⟩ o
    have hl' : P.1.l.length ≤ d.l.length + 42 := by rw [List.length_append] at hl; omega
    have hfa : fr 1 (l ++ [s]) = fr 1 l ++ frameB 1 s := by rw [fr_append, hf1]
    rw [hadd]
    by_cases h0 : P.2 = 0
    · rw [if_pos h0]
      refine ⟨fun _ => ⟨⟨by rw [hg, hfa], o.len.trans h.len, fun p hp => ?_, hsy, by rw [List.take_append_of_le_length h.n]; exact hcw, by rw [List.length_append]; have := h.n; omega⟩, by rw [hfa, List.length_append]; omega⟩, hcw, hl', o.len.trans h.len⟩
      rw [hfa] at hp ⊢
      simp only
      rw [o.now h0 p]
      split
      · rfl
      · rename_i hn
        have hpl : p < (fr 1 l).length := by rw [List.length_append] at hn hp; omega
        rw [getD_app hpl, h.now p hpl]
    · rw [if_neg h0]
      exact ⟨fun hz => absurd hz h0, hcw, hl', o.len.trans h.len⟩
  · have hrun : addRun 1 (roomOf g) [s] [] false = (0, [], true) := by
      rw [addRun_cons, frame_rec turn1 hs, if_pos rfl, if_pos (.inr (by simp only [List.length_nil]; omega))]
      rfl
    have hadd : addG g d [s] = (g, d, 2) := by
      unfold addG
      rw [ht, hrun]
      simp
    rw [hadd]
    exact ⟨fun hz => by simp at hz, h.cw, by simp only; omega, h.len⟩
theorem cs_sync {g : LG} {d : DK} {l : List (List UInt8)} {n : Nat} (h : CS g d l n) : (d.flush.2 = 0 → CS g d.flush.1 l l.length) ∧ CS g d.flush.1 l n ∧ d.flush.1.l.length ≤ d.l.length := by
  obtain ⟨b1, b2, b3⟩ := DK.burns_now d
  have hsy := syn_flush h.syn
  have hsu : applyAll d.sure d.l = d.now := h.syn.symm
  unfold DK.flush at hsy ⊢
  by_cases hb : d.burns.2 = true
  · rw [if_pos hb] at hsy ⊢
    have hnow : ({ d.burns.1 with sure := applyAll d.sure d.l, l := [] } : DK).now = d.now := b1
    have key : ∀ m, m ≤ l.length → CS g { d.burns.1 with sure := applyAll d.sure d.l, l := [] } l m := by
      intro m hm
      refine ⟨h.g, by rw [hnow]; exact h.len, fun p hp => by rw [hnow]; exact h.now p hp, hsy.1, ⟨fun p hp => ?_, fun x hx => by simp at hx⟩, hm⟩
      show byteAt (applyAll d.sure d.l) p = _
      have hlt : p < (fr 1 l).length := by rw [fr_take 1 l m, List.length_append]; omega
      rw [hsu, h.now p hlt, fr_take 1 l m, getD_app hp]
    exact ⟨fun _ => key _ (Nat.le_refl _), key _ h.n, hsy.2⟩
  · rw [if_neg hb] at hsy ⊢
    exact ⟨fun hz => by simp at hz, ⟨h.g, by simp only [b1]; exact h.len, fun p hp => by simp only [b1]; exact h.now p hp, hsy.1, ⟨fun p hp => by simp only [b3]; exact h.cw.sure p hp, fun x hx => by simp only [b2] at hx; exact h.cw.wr x hx⟩, h.n⟩, hsy.2⟩
theorem scan_valid (t : Int) : ∀ (n : Nat) (s : List UInt8), ∀ r ∈ scanL t n s, (frame t r).2 = 0 := by
  intro n
  induction n with
  | zero => intro s r hr; cases hr
  | succ n ih =>
    intro s r hr
    unfold scanL at hr
    split at hr
    · rename_i hok
      rcases List.mem_cons.1 hr with rfl | hr
      · obtain ⟨_, _, _, _, h5⟩ := (next_frame t s).1 hok
        rw [h5]
      · exact ih _ r hr
    · cases hr
/-- behind a crash -/
theorem cw_scan {d : DK} {A : List (List UInt8)} (h : CW d (fr 1 A)) (ok : d.Ok) (hlen : d.now.length = 40) (hA : Recs A) (hl : (fr 1 A).length ≤ 1280) (ks : List Int) :
    (d.crash ks).off = false ∧ (d.crash ks).now.length = 40 ∧ ∃ Z, scan 1 (allOf (d.crash ks) 0 (40 - 0)) = A ++ Z ∧ ∀ r ∈ A ++ Z, (frame 1 r).2 = 0 := by
  have hr := crashL_rows (n := d.now.length) (ks := ks) ok.len ok.sz1 ok.szl
  have hl2 : (d.crash ks).now.length = 40 := by show (crashL d.l ks d.sure).length = 40; rw [hr.1, hlen]
  refine ⟨rfl, hl2, ?_⟩
  have hall : allOf (d.crash ks) 0 (40 - 0) = (d.crash ks).now.flatten := by
    unfold allOf
    rw [List.drop_zero, List.take_of_length_le (by rw [hl2]; omega)]
  obtain ⟨r, hr⟩ := pre_flat (L := (d.crash ks).now) hr.2 (P := fr 1 A) (by rw [hl2]; omega) (h.crash ok ks)
  rw [hall, hr, scan_fr turn1 A r hA]
  refine ⟨scan 1 r, rfl, fun x hx => ?_⟩
  rcases List.mem_append.1 hx with hx | hx
  · rw [frame_rec turn1 (hA x hx)]
  · exact scan_valid 1 _ r x hx
theorem frameB_inj {t : Int} {a b : List UInt8} (h : frameB t a = frameB t b) : a = b := by
  have hd : ∀ s, (frameB t s).drop 10 = s := by
    intro s
    unfold frameB
    rw [List.drop_left' (by simp [headOf_len, put4_len])]
  rw [← hd a, ← hd b, h]
theorem frame_inj {t : Int} {a b : List UInt8} (ha : (frame t a).2 = 0) (hb : (frame t b).2 = 0) (h : (frame t a).1 = (frame t b).1) : a = b := by
  have key : ∀ s, (frame t s).2 = 0 → (frame t s).1 = frameB t s := by
    intro s hs
    unfold frame at hs ⊢
    split
    · rfl
    · rename_i hn; rw [if_neg hn] at hs; simp at hs
  rw [key a ha, key b hb] at h
  exact frameB_inj h
end Go.Proofs

/- WalCrash. -/
set_option linter.unusedVariables false
set_option linter.unusedSimpArgs false
namespace Go.Proofs
open Go Go.Q
def intV (k : Int) : List Value := [.int .i64 k]
theorem intV_flat (l : List Int) : (l.map intV).flatten = l.map fun k => Value.int .i64 k := by
  induction l with
  | nil => rfl
  | cons s l ih => rw [List.map_cons, List.flatten_cons, ih]; rfl
theorem arg_ints {w : World} {v : Value} {ks : List Int} {S : List Nat} (h : ArgAt w v 1 (ks.map intV) S) : ∃ S', IntsAt w v ks S' ∧ ∀ x ∈ S', x ∈ S := by
  rcases h with ⟨a, cap, h1, h2⟩ | ⟨h1, h2⟩ | ⟨bl, o, cap, c, T, fr, h1, h2, h3, h4, h5, h6, h7⟩
  · have : ks = [] := by simpa using h2
    subst this
    exact ⟨[], ⟨a, cap, h1, .inl rfl⟩, by simp⟩
  · have : ks = [] := by simpa using h2
    subst this
    exact ⟨[], ⟨none, 0, h1, .inl rfl⟩, by simp⟩
  · refine ⟨S, ⟨some ⟨bl, o, none⟩, cap, by rw [h1]; simp, .inr ⟨bl, o, c, T, fr, rfl, h2, h3, fun i hi => ?_⟩⟩, fun x hx => hx⟩
    rw [intV_flat, List.length_map, Nat.mul_one] at h6
    have e := congrArg (fun l => l[i]?) h6
    simp only [List.getElem?_take_of_lt hi, List.getElem?_drop, Array.getElem?_toList, List.getElem?_map] at e
    rw [e]
    simp [hi, List.getD]
theorem ints_arg {w : World} {v : Value} (h : Taken w 22 v) : ∃ (ks : List Int) (SK : List Nat), ArgAt w v 1 (ks.map intV) SK ∧ (∀ b ∈ SK, b < w.heap.size) ∧ ∀ x ∈ ks, -9223372036854775808 ≤ x ∧ x < 9223372036854775808 := by
  obtain ⟨H, enc, fuel, x, h⟩ := h
  obtain ⟨v', rows, SK, hv, harg, hlt, hlen, hr⟩ := arg_slice Try.underlying22 (n := 1) (by kernel_rfl) (by omega) h
  injection hv with hv _
  subst hv
  have key : ∀ rs : List (List Value), (∀ r ∈ rs, r ∈ rows) → ∃ ks : List Int, rs = ks.map intV ∧ ∀ x ∈ ks, -9223372036854775808 ≤ x ∧ x < 9223372036854775808 := by
    intro rs
    induction rs with
    | nil => intro _; exact ⟨[], rfl, by simp⟩
    | cons r rs ih =>
      intro hrs
      obtain ⟨ks, h1, h2⟩ := ih fun x hx => hrs x (by simp [hx])
      obtain ⟨f, y, hy⟩ := hr r (hrs r (by simp))
      have hrl := harg.row (hrs r (by simp))
      obtain ⟨a, rfl⟩ : ∃ a, r = [a] := by
        match r, hrl with
        | [a], _ => exact ⟨a, rfl⟩
      obtain ⟨k, e, _, hw⟩ := DataW.trod_int Try.underlying3 hy
      injection e with e _
      exact ⟨k :: ks, by rw [h1, e]; rfl, fun x hx => by
        rcases List.mem_cons.1 hx with rfl | hx
        · exact wf64 hw
        · exact h2 x hx⟩
  obtain ⟨ks, h1, h2⟩ := key rows fun _ h => h
  subst h1
  exact ⟨ks, SK, harg, hlt, h2⟩
theorem frame_ok {t : Int} {s : List UInt8} (h : (frame t s).2 = 0) : s.length ≤ 1024 ∧ s ≠ [] := by
  unfold frame at h
  split at h
  · rename_i hc; exact ⟨hc.2.2, hc.2.1⟩
  · simp at h
theorem arg_text {w : World} {v : Value} {l : List (List UInt8)} {S : List Nat} (h : ArgAt w v 1 (l.map strV) S) {i : Nat} (hi : i < l.length) :
    ∃ bl o c T fr, w.heap[bl]? = some (.cells c T fr) ∧ (∀ kd K, ia 1 v (.int kd i) K = K (.pointer (some ⟨bl, o, none⟩))) ∧ c[o]? = some (.string (str l[i])) ∧ bl ∈ S := by
  obtain ⟨bl, o, T, c, fr, hm, hh, hia, _, _, hc⟩ := h.at (i := i) (by simpa using hi)
  refine ⟨bl, o, c, T, fr, hh, hia, ?_, hm⟩
  have := hc 0 (by omega); simpa [strV] using this
theorem chance_spec {w : World} {va vz : Value} {A Z : List (List UInt8)} {Sa Sz : List Nat} (ha : ArgAt w va 1 (A.map strV) Sa) (hz : ArgAt w vz 1 (Z.map strV) Sz) {i : Nat} (hi : i < Z.length)
    (hZ : ∀ s ∈ Z, (frame 1 s).2 = 0) (hA : ∀ s ∈ A, (frame 1 s).2 = 0) (hne : ∀ h : i < A.length, Z[i] ≠ A[i]) {K : Value → World → Prop} (hK : ∀ w', Kp [] w w' → K (.bool true) w') :
    callG Try.prog 43 #[va, vz, .int .i64 i] w K := by
  refine law04_chance_call ?_
  simp only [law04_chance, law04_chance_s0]
  obtain ⟨bl, o, c, T, fr', hh, hia, hc, _⟩ := arg_text hz hi
  have hzi := hZ _ (List.getElem_mem hi)
  have hzl := (frame_ok hzi).1
  simp [-getElem?_pos, -Array.getElem?_eq_getElem, -List.length_flatten, List.getElem?_cons_zero, List.getElem?_cons_succ, hia, hh, hc]
  refine Frame_spec 1 Z[i] (by omega) fun w1 hk1 => ?_
  rw [ex0, ex1, hzi]
  have ha1 := ha.keep hk1 (by simp)
  simp [-getElem?_pos, -Array.getElem?_eq_getElem, -List.length_flatten, List.getElem?_cons_zero, List.getElem?_cons_succ, ha1.lenL]
  refine ⟨fun _ => hK w1 hk1, fun hlt => ?_⟩
  have hiA : i < A.length := by omega
  obtain ⟨bl2, o2, c2, T2, fr2, hh2, hia2, hc2, _⟩ := arg_text ha1 hiA
  have hai := hA _ (List.getElem_mem hiA)
  have hal := (frame_ok hai).1
  simp [-getElem?_pos, -Array.getElem?_eq_getElem, -List.length_flatten, List.getElem?_cons_zero, List.getElem?_cons_succ, hia2, hh2, hc2]
  refine Frame_spec 1 A[i] (by omega) fun w2 hk2 => ?_
  rw [ex0, ex1, hai]
  have : (frame 1 Z[i]).1 ≠ (frame 1 A[i]).1 := fun h => hne hiA (frame_inj hzi hai h)
  simp [-getElem?_pos, -Array.getElem?_eq_getElem, -List.length_flatten, List.getElem?_cons_zero, List.getElem?_cons_succ, this]
  exact hK w2 (hk1.trans' hk2)
section
variable {w0 : World} {R : Value → World → Prop}
theorem crash_s6 (hR : ∀ w', Kp [] w0 w' → R (.bool true) w') {w : World} (hk0 : Kp [] w0 w) {va vz : Value} {A Z : List (List UInt8)} {Sa Sz : List Nat} (ha : ArgAt w va 1 (A.map strV) Sa) (hz : ArgAt w vz 1 (Z.map strV) Sz) {n : Nat}
    (hpre : ∀ i (h1 : i < Z.length) (h2 : i < A.length), i < n → Z[i] = A[i]) (hn : n ≤ A.length) (hnz : n ≤ Z.length) (hZ : ∀ s ∈ Z, (frame 1 s).2 = 0) (hA : ∀ s ∈ A, (frame 1 s).2 = 0) (hlz : Z.length < 2 ^ 40) :
    law04_WalCrash_s6 R va (.int .i64 n) vz w := by
  have haw : ∀ w', Kp [] w0 w' → callG Try.prog 29 #[] w' fun t w => R t w := fun w' hk => awake4_spec fun w'' hk' => hR w'' (hk.trans' hk')
  unfold law04_WalCrash_s6 law04_WalCrash_L5
  refine loop_inv (fun m xs wi => ∃ i, i ≤ Z.length ∧ m = Z.length - i ∧ xs = [va, .int .i64 n, vz, .int .i64 (i : Nat)] ∧ Kp [] w wi) ?_ (m := Z.length) ⟨0, by omega, rfl, rfl, Kp.refl _ _⟩
  rintro m N xs wi ⟨i, hi, rfl, rfl, hki⟩ hN
  have hzi := hz.keep hki (by simp)
  simp only [law04_WalCrash_L5F, law04_WalCrash_s4, hzi.lenL, List.length_map, bq_lss, bV_b]
  refine ⟨fun hlt => ?_, fun hge => ?_⟩
  · have hi : i < Z.length := by simpa using hlt
    have hiw : IntKind.i64.wrap ((i : Int) + 1) = ((i + 1 : Nat) : Int) := by rw [w64 (by omega) (by omega)]; simp
    have hkd := hki.drew
    have had := ha.keep hkd (by simp)
    have hzd := hz.keep hkd (by simp)
    have bad : (∀ h : i < A.length, Z[i] ≠ A[i]) → law04_WalCrash_s2 R N va (.int .i64 n) vz (.int .i64 i) (.bool true) wi.drew := by
      intro hne
      have hni : n ≤ i := by
        rcases Nat.lt_or_ge i n with h | h
        · exact absurd (hpre i hi (by omega) h) (hne (by omega))
        · exact h
      unfold law04_WalCrash_s2
      have : ((n : Int) ≤ i) := by omega
      simp [-getElem?_pos, -Array.getElem?_eq_getElem, -List.length_flatten, List.getElem?_cons_zero, List.getElem?_cons_succ, this]
      refine chance_spec had hzd hi hZ hA hne fun w1 hk1 => ?_
      simp [-getElem?_pos, -Array.getElem?_eq_getElem, -List.length_flatten, List.getElem?_cons_zero, List.getElem?_cons_succ, ]
      exact haw w1 ((hk0.trans' hkd).trans' hk1)
    unfold law04_WalCrash_s3
    simp only [(ha.keep hki (by simp)).lenL, List.length_map, bq_geq, bV_b]
    refine ⟨fun h => bad fun h2 => by simp at h; omega, fun h => ?_⟩
    have hiA : i < A.length := by simpa using h
    obtain ⟨bl, o, c, T, fr', hh, hia, hc, _⟩ := arg_text hzd hi
    obtain ⟨bl2, o2, c2, T2, fr2, hh2, hia2, hc2, _⟩ := arg_text had hiA
    simp only [heap_drew] at hh hh2
    simp [-getElem?_pos, -Array.getElem?_eq_getElem, -List.length_flatten, List.getElem?_cons_zero, List.getElem?_cons_succ, hia, hh, hc, hia2, hh2, hc2]
    by_cases he : Z[i] = A[i]
    · unfold law04_WalCrash_s2 law04_WalCrash_s1
      simp [-getElem?_pos, -Array.getElem?_eq_getElem, -List.length_flatten, List.getElem?_cons_zero, List.getElem?_cons_succ, he, hiw]
      exact hN (Z.length - (i + 1)) _ _ (by omega) ⟨i + 1, by omega, rfl, rfl, hkd⟩
    · have hb := bad fun _ => he
      simp [-getElem?_pos, -Array.getElem?_eq_getElem, -List.length_flatten, List.getElem?_cons_zero, List.getElem?_cons_succ, he]
      exact hb
  · have hie : i = Z.length := by simp at hge; omega
    unfold law04_WalCrash_s0
    have : (n : Int) ≤ Z.length := by omega
    simp [-getElem?_pos, -Array.getElem?_eq_getElem, -List.length_flatten, List.getElem?_cons_zero, List.getElem?_cons_succ, hzi.lenL, this]
    exact haw wi (hk0.trans' hki)
/-- the power goes off, and the log is opened anew -/
theorem crash_s8 (hR : ∀ w', Kp [] w0 w' → R (.bool true) w') {w : World} {a b : Nat} {g : LG} {d : DK} {B : List Nat} (o : OL w0 w a b g d B) (hdl : d.l.length < 2 ^ 40) (hnow : d.now.length = 40)
    {va kv : Value} {A : List (List UInt8)} {Sa : List Nat} (ha : ArgAt w va 1 (A.map strV) Sa) (hab : ∀ z ∈ Sa, z ∉ B) {n : Nat} (hn : n ≤ A.length) (hA : Recs A) (hfl : (fr 1 (A.take n)).length ≤ 1280) (hcw : CW d (fr 1 (A.take n)))
    {ks : List Int} {SK : List Nat} (hks : ArgAt w kv 1 (ks.map intV) SK) (hdis : ∀ x ∈ SK, x ∉ B) (hkw : ∀ x ∈ ks, -9223372036854775808 ≤ x ∧ x < 9223372036854775808) :
    law04_WalCrash_s8 R (.pointer (some ⟨b, 0, none⟩)) va (.int .i64 n) kv w := by
  unfold law04_WalCrash_s8
  have hA0 : ∀ s ∈ A, (frame 1 s).2 = 0 := fun s hs => by rw [frame_rec turn1 (hA s hs)]
  have htr : Recs (A.take n) := fun s hs => hA s (List.mem_of_mem_take hs)
  have ok := o.ok
  obtain ⟨h1, h2, Z, h3, h4⟩ := cw_scan hcw ok hnow htr hfl ks
  have hT := fun w' => OL.turn (w' := w') (S' := B) o
  have hnew := o.new
  obtain ⟨S, SL, lv, hB, hd, hL, _, _⟩ := o.ex
  obtain ⟨SK', hki, hsub⟩ := arg_ints hks
  have hSB : ∀ x ∈ S, x ∈ B := fun x hx => by rw [hB]; simp [hx]
  refine Crash_spec hd hdl hki (fun x hx hm => hdis x (hsub x hx) (hSB x hm)) hkw fun w1 hd1 hk1 => ?_
  have hk1' : Kp B w w1 := hk1.mono fun x hx _ => hSB x hx
  have hk01 := hT w1 hk1' fun x hx => hx
  have o1 : Own w0 w1 b (d.crash ks) S := ⟨hd1, hk01, fun x hx => hnew x (hSB x hx)⟩
  simp [-getElem?_pos, -Array.getElem?_eq_getElem, -List.length_flatten, List.getElem?_cons_zero, List.getElem?_cons_succ, ]
  refine ol_open (lo := 0) (hi := 40) o1 h1 (by omega) (by omega) turn1 fun w2 a2 B2 o2 hk2 hB2 hB2' => ?_
  rw [ex0, ex1]
  simp [-getElem?_pos, -Array.getElem?_eq_getElem, -List.length_flatten, List.getElem?_cons_zero, List.getElem?_cons_succ, ]
  rw [h3] at o2
  unfold law04_WalCrash_s7
  have hlZ : (A.take n ++ Z).length < 2 ^ 40 := by
    have hu := usedOf_len (A.take n ++ Z)
    have hsc := scan_used 1 (allOf (d.crash ks) 0 (40 - 0))
    rw [h3] at hsc
    have hlen : (allOf (d.crash ks) 0 (40 - 0)).length = 32 * (40 - 0) := allOf_len hd1.ok (by omega)
    omega
  refine ol_records o2 hlZ fun w3 v3 S3 hr3 hk3 hS3 => ?_
  have hav := ha.keep hk1' hab
  have hav3 := hav.keep (hk2.trans' hk3) (by simp)
  have htl : (A.take n).length = n := by rw [List.length_take]; omega
  refine crash_s6 hR (hk01.trans' (hk2.trans' hk3)) hav3 (.inr hr3.rd) (fun i g1 g2 hlt => ?_) hn (by show n ≤ (A.take n ++ Z).length; rw [List.length_append]; omega) h4 hA0 hlZ
  show (A.take n ++ Z)[i] = A[i]
  rw [List.getElem_append_left (by omega), List.getElem_take]
end
end Go.Proofs

/- WalCrash: the loop, and the call. -/
set_option linter.unusedVariables false
set_option linter.unusedSimpArgs false
namespace Go.Proofs
open Go Go.Q
theorem ol_fuse {w0 w : World} {a b : Nat} {g : LG} {d : DK} {B : List Nat} (h : OL w0 w a b g d B) (n : Int) (hn : n < 9223372036854775808) {K : Value → World → Prop}
    (hK : ∀ w', OL w0 w' a b g { d with fuse := max n (-1) } B → Kp B w w' → K (.int .i64 0) w') : callG Try.prog 23 #[.pointer (some ⟨b, 0, none⟩), .int .i64 n] w K := by
  have hT := fun w' => OL.turn (w' := w') (S' := B) h
  have hnew := h.new
  obtain ⟨S, SL, lv, rfl, hd, hL, h1, h2⟩ := h.ex
  refine Fuse_spec hd n hn fun w' hd' hk' => ?_
  have hb : b ∈ S := by obtain ⟨bs, bn, lv, SL, T, Ts, Tn, rfl, _⟩ := hd; simp
  have hkS : Kp S w w' := hk'.mono (by simpa using fun _ => hb)
  have hkB : Kp (a :: (SL ++ S)) w w' := hkS.mono fun x hx _ => by simp [hx]
  exact hK w' ⟨⟨S, SL, lv, rfl, hd', hL.keep hkS h1 h2, h1, h2⟩, hT w' hkB fun x hx => hx, hnew⟩ hkB
section
variable {w0 : World} {R : Value → World → Prop} {x0 x2 : Value} {syncs : Int} {l : List (List UInt8)} {SA : List Nat} {ks : List Int} {SK : List Nat}
theorem crash_s9 (hR : ∀ w', Kp [] w0 w' → R (.bool true) w') {w : World} {a b : Nat} {g : LG} {d : DK} {B : List Nat} (o : OL w0 w a b g d B) (hdl : d.l.length < 2 ^ 40) (hnow : d.now.length = 40)
    {va : Value} {A : List (List UInt8)} {Sa : List Nat} (ha : ArgAt w va 1 (A.map strV) Sa) (hab : ∀ z ∈ Sa, z ∉ B) {n : Nat} (hn : n ≤ A.length) (hA : Recs A) (hfl : (fr 1 (A.take n)).length ≤ 1280) (hcw : CW d (fr 1 (A.take n)))
    (hks : ArgAt w0 x2 1 (ks.map intV) SK) (hSK : ∀ x ∈ SK, x < w0.heap.size) (hkw : ∀ x ∈ ks, -9223372036854775808 ≤ x ∧ x < 9223372036854775808) :
    law04_WalCrash_s9 R x2 (.pointer (some ⟨b, 0, none⟩)) va (.int .i64 n) w := by
  unfold law04_WalCrash_s9
  have hk := hks.keep o.kp (by simp)
  have hdis : ∀ x ∈ SK, x ∉ B := fun x hx hm => by have := hSK x hx; have := o.new x hm; omega
  simp only [hk.lenL, List.length_map, bq_gtr, bV_b]
  refine ⟨fun h => ?_, fun h => ?_⟩
  · have h1 : 1 ≤ ks.length := by simp at h; omega
    obtain ⟨v, hv, hs⟩ := hk.drop (p := 1) (by simpa using h1) (kd := .i64)
    have hs' : ∀ K : Value → Prop, slL 1 x2 (some (.int .i64 1)) none K = K v := hs
    rw [hs']
    rw [← List.map_drop] at hv
    exact crash_s8 hR o hdl hnow ha hab hn hA hfl hcw hv hdis fun x hx => hkw x (List.mem_of_mem_drop hx)
  · exact crash_s8 hR o hdl hnow ha hab hn hA hfl hcw (ks := []) (SK := []) (.inl ⟨none, 0, rfl, rfl⟩) (by simp) (by simp)
theorem zc9s : zc Try.prog 9 = (strV []).toArray := by kernel_rfl
theorem crash_loop (hR : ∀ w', Kp [] w0 w' → R (.bool true) w') {w : World} {a b : Nat} {g : LG} {d : DK} {B : List Nat} (o : OL w0 w a b g d B) (hdl : d.l.length = 0) (hcs : CS g d [] 0)
    (hx : ArgAt w0 x0 1 (l.map strV) SA) (hSA : ∀ z ∈ SA, z < w0.heap.size) (hl : l.length ≤ 20)
    (hks : ArgAt w0 x2 1 (ks.map intV) SK) (hSK : ∀ x ∈ SK, x < w0.heap.size) (hkw : ∀ x ∈ ks, -9223372036854775808 ≤ x ∧ x < 9223372036854775808) :
    law04_WalCrash_s16 R x0 (.int .i64 syncs) x2 (.pointer (some ⟨b, 0, none⟩)) (.pointer (some ⟨a, 0, none⟩)) w := by
  have haw : ∀ w', Kp [] w0 w' → callG Try.prog 29 #[] w' fun t w => R t w := fun w' hk => awake4_spec fun w'' hk' => hR w'' (hk.trans' hk')
  unfold law04_WalCrash_s16 law04_WalCrash_s15 law04_WalCrash_L14
  refine loop_inv (fun m xs wi => ∃ i g d B n va Sa, i ≤ l.length ∧ m = l.length - i ∧ xs = [x0, .int .i64 syncs, x2, .pointer (some ⟨b, 0, none⟩), .pointer (some ⟨a, 0, none⟩), va, .int .i64 (n : Nat), .int .i64 (i : Nat)] ∧
      OL w0 wi a b g d B ∧ CS g d (l.take i) n ∧ (fr 1 (l.take i)).length ≤ 1280 ∧ d.l.length ≤ 50 * i ∧ (∀ s ∈ l.take i, s ≠ [] ∧ s.length ≤ 60) ∧ RowsAt wi va 1 ((l.take i).map strV) Sa ∧ (∀ z ∈ Sa, z ∉ B) ∧ ∀ z ∈ Sa, w0.heap.size ≤ z)
    ?_ (m := l.length) ⟨0, g, d, B, 0, .slice none 0 0, [], by omega, rfl, rfl, o, by simpa using hcs, by simp [fr], by omega, by simp, .inl ⟨rfl, rfl, rfl⟩, by simp, by simp⟩
  rintro m N xs wi ⟨i, gi, di, Bi, n, va, Sa, hi, rfl, rfl, oi, ci, hfr, hdi, hri, hva, hab, han⟩ hN
  have hxi := hx.keep oi.kp (by simp)
  have htl : (l.take i).length = i := by rw [List.length_take]; omega
  have hn := ci.n
  have hpre : (fr 1 ((l.take i).take n)).length ≤ 1280 := by
    rw [fr_take 1 (l.take i) n, List.length_append] at hfr; omega
  simp only [law04_WalCrash_L14F, law04_WalCrash_s13, hxi.lenL, List.length_map, bq_lss, bV_b]
  refine ⟨fun hlt => ?_, fun hge => ?_⟩
  · have hi : i < l.length := by simpa using hlt
    have hiw : IntKind.i64.wrap ((i : Int) + 1) = ((i + 1 : Nat) : Int) := by rw [w64 (by omega) (by omega)]; simp
    obtain ⟨bl, of, c, T, fr', hh, hia, hs, hbl⟩ := arg_text hxi hi
    have hnil : (⟨#[]⟩ : ByteArray) = str [] := rfl
    unfold law04_WalCrash_s12
    simp [-getElem?_pos, -Array.getElem?_eq_getElem, -List.length_flatten, List.getElem?_cons_zero, List.getElem?_cons_succ, hia, hh, hs, hnil]
    refine ⟨fun _ => haw _ oi.kp, fun h60 => ⟨fun _ => haw _ oi.kp, fun hne => ?_⟩⟩
    unfold law04_WalCrash_s11
    simp [-getElem?_pos, -Array.getElem?_eq_getElem, -List.length_flatten, List.getElem?_cons_zero, List.getElem?_cons_succ, hia, hh, hs]
    rw [bsl_one rfl]
    obtain ⟨w1, hw1⟩ : ∃ w1, w1 = wi.alloc (.cells #[.string (str l[i])] 9) := ⟨_, rfl⟩
    have hk1 : Kp [] wi w1 := by rw [hw1]; exact (Kp.refl [] wi).alloc _
    have hb1 : w1.heap[wi.heap.size]? = some (.cells #[.string (str l[i])] 9) := by rw [hw1]; exact heap_new
    rw [← hw1]
    have g1 : RdAt w1 (.slice (some ⟨wi.heap.size, 0, none⟩) 1 1) 1 ([l[i]].map strV) [wi.heap.size] :=
      .inr ⟨_, 0, 1, _, _, _, rfl, rfl, hb1, by simp [strV], by simp, by simp [strV], by simp⟩
    have hva1 := hva.keep hk1 (by simp)
    rw [zc9s]
    refine rows_app (k := 1) (G := [l[i]].map strV) hva1 (by omega) rfl (by simp [strV]) (strV_one _) (fun K' hK' => g1.src K' hK') (by simp [htl]; omega) (by simp [htl]; omega) fun v2 w2 S2 hv2 hk2 hS2 => ?_
    rw [← List.map_append] at hv2
    have htk : l.take i ++ [l[i]] = l.take (i + 1) := (List.take_succ_eq_append_getElem hi).symm
    rw [htk] at hv2
    have hsz1 := hk1.size
    have hszi := oi.kp.size
    have hk02 : Kp [] w0 w2 := (oi.kp.trans' hk1).trans hk2 fun x hx hlt => by have := han x hx; omega
    have hBl := oi.live
    have o2 := (oi.keep0 hk1).keep hk2 (fun z hz hm => hab z hm hz) hk02
    have hS2n : ∀ z ∈ S2, w0.heap.size ≤ z := fun z hz => by
      rcases hS2 z hz with h | h
      · exact han z h
      · omega
    have hS2B : ∀ z ∈ S2, z ∉ Bi := fun z hz hm => by
      rcases hS2 z hz with h | h
      · exact hab z h hm
      · have := hBl z hm; omega
    have hh2 := hk2.get (hk1.get hh (by simp)) fun hm => by have := han bl hm; have := hSA bl hbl; omega
    simp [-getElem?_pos, -Array.getElem?_eq_getElem, -List.length_flatten, List.getElem?_cons_zero, List.getElem?_cons_succ, hh2, hs]
    rw [bsl_one rfl]
    obtain ⟨w3, hw3⟩ : ∃ w3, w3 = w2.alloc (.cells #[.string (str l[i])] 9) := ⟨_, rfl⟩
    have hk3 : Kp [] w2 w3 := by rw [hw3]; exact (Kp.refl [] w2).alloc _
    have hb3 : w3.heap[w2.heap.size]? = some (.cells #[.string (str l[i])] 9) := by rw [hw3]; exact heap_new
    rw [← hw3]
    have g3 : RdAt w3 (.slice (some ⟨w2.heap.size, 0, none⟩) 1 1) 1 ([l[i]].map strV) [w2.heap.size] :=
      .inr ⟨_, 0, 1, _, _, _, rfl, rfl, hb3, by simp [strV], by simp, by simp [strV], by simp⟩
    have o3 := o2.keep0 hk3
    have hv3 := hv2.keep hk3 (by simp)
    have hg := ci.g
    have hB2 := o2.live
    have hb3l := lt_of_blk hb3
    have hrec : l[i] ≠ [] ∧ l[i].length ≤ 1024 := ⟨hne, by omega⟩
    obtain ⟨p1, p2, p3, p4⟩ := cs_add ci oi.ok hrec hfr
    have hri' : ∀ s ∈ l.take (i + 1), s ≠ [] ∧ s.length ≤ 60 := by
      rw [← htk]
      intro s hs
      rcases List.mem_append.1 hs with h | h
      · exact hri s h
      · simp only [List.mem_singleton] at h; rw [h]; exact ⟨hne, by omega⟩
    have hrecA : Recs (l.take (i + 1)) := fun s hs => ⟨(hri' s hs).1, by have := (hri' s hs).2; omega⟩
    have hlA : (l.take (i + 1)).length = i + 1 := by rw [List.length_take]; omega
    have htn : (l.take (i + 1)).take n = (l.take i).take n := by rw [List.take_take, List.take_take]; congr 1; omega
    have hul : (fr 1 (l.take i)).length = usedOf (l.take i) := fr_len _ _
    refine ol_add o3 (lo := 0) (hi := 40) (.inr g3) (fun z hz hm => by simp only [List.mem_singleton] at hz; have := hB2 z hm; omega) (fun z hz => by simp only [List.mem_singleton] at hz; omega)
      (by rw [hg]; simp only [htl, List.length_cons, List.length_nil]; omega) (by intro s hs; simp only [List.mem_singleton] at hs; rw [hs]; omega) (by rw [hg]; try rfl) (by rw [hg]; try rfl) (by omega) (by omega) (by rw [hg]; simp only; omega) (by omega) fun w4 B4 o4 hk4 hB4 => ?_
    have hv4 : RowsAt w4 v2 1 ((l.take (i + 1)).map strV) S2 := hv3.keep hk4 hS2B
    have hS2B4 : ∀ z ∈ S2, z ∉ B4 := fun z hz hm => by
      rcases hB4 z hm with h | h
      · exact hS2B z hz h
      · have := hv3.lt z hz; omega
    simp [-getElem?_pos, -Array.getElem?_eq_getElem, -List.length_flatten, List.getElem?_cons_zero, List.getElem?_cons_succ, ]
    refine ⟨fun he => ?_, fun he => ?_⟩
    · exact crash_s9 hR o4 (by omega) p4 (.inr hv4.rd) hS2B4 (by rw [hlA]; omega) hrecA (by rw [htn]; exact hpre) (by rw [htn]; exact p2) hks hSK hkw
    · obtain ⟨c4, hf4⟩ := p1 he
      rw [htk] at c4 hf4
      have next : ∀ (w' : World) (g' : LG) (d' : DK) (n' : Nat), OL w0 w' a b g' d' B4 → CS g' d' (l.take (i + 1)) n' → d'.l.length ≤ 50 * (i + 1) → Kp B4 w4 w' →
          law04_WalCrash_s10 R N x0 (.int .i64 syncs) x2 (.pointer (some ⟨b, 0, none⟩)) (.pointer (some ⟨a, 0, none⟩)) v2 (.int .i64 n') (.int .i64 i) w' := by
        intro w' g' d' n' o' c' hd' hk'
        unfold law04_WalCrash_s10
        simp only [bq_add, hiw]
        exact hN (l.length - (i + 1)) _ _ (by omega) ⟨i + 1, g', d', B4, n', v2, S2, by omega, rfl, rfl, o', c', hf4, hd', hri', hv4.keep hk' hS2B4, hS2B4, hS2n⟩
      rw [shr_of (by omega) (by simp [IntKind.bits]; omega)]
      simp [-getElem?_pos, -Array.getElem?_eq_getElem, -List.length_flatten, List.getElem?_cons_zero, List.getElem?_cons_succ, ]
      refine ⟨fun hbit => ?_, fun hbit => next w4 _ _ n o4 c4 (by omega) (Kp.refl _ _)⟩
      refine ol_sync o4 (by omega) fun w5 o5 hk5 => ?_
      obtain ⟨q1, q2, q3⟩ := cs_sync c4
      simp [-getElem?_pos, -Array.getElem?_eq_getElem, -List.length_flatten, List.getElem?_cons_zero, List.getElem?_cons_succ, ]
      have hv5 := hv4.keep hk5 hS2B4
      refine ⟨fun hz => ?_, fun hz => next w5 _ _ n o5 q2 (by omega) hk5⟩
      rw [hv5.rd.lenL, List.length_map, hlA]
      have c5 := q1 hz
      rw [hlA] at c5
      exact next w5 _ _ (i + 1) o5 c5 (by omega) hk5
  · have hie : i = l.length := by simp at hge; omega
    have hA : Recs (l.take i) := fun s hs => ⟨(hri s hs).1, by have := (hri s hs).2; omega⟩
    exact crash_s9 hR oi (by omega) ci.len (.inr hva.rd) hab hn hA hpre ci.cw hks hSK hkw
theorem crash_call (hR : ∀ w', Kp [] w0 w' → R (.bool true) w') (hx : ArgAt w0 x0 1 (l.map strV) SA) (hSA : ∀ z ∈ SA, z < w0.heap.size)
    (hks : ArgAt w0 x2 1 (ks.map intV) SK) (hSK : ∀ x ∈ SK, x < w0.heap.size) (hkw : ∀ x ∈ ks, -9223372036854775808 ≤ x ∧ x < 9223372036854775808) : callG Try.prog 11 #[x0, .int .i64 syncs, x2] w0 R := by
  refine law04_WalCrash_call ?_
  simp only [law04_WalCrash, law04_WalCrash_s20]
  refine New_ok (n := 40) (by omega) (by omega) fun w1 b S1 d1 hk1 hS1 => ?_
  rw [ex0, ex1]
  have o1 : Own w0 w1 b (DK.fresh 40) S1 := ⟨d1, hk1, hS1⟩
  refine ol_new hk1 (n := 40) (by omega) (by omega) o1 fun w3 a B1 ol1 hk3 hB1 hB1' => ?_
  rw [ex0, ex1]
  have hxi := hx.keep (hk1.trans' hk3) (by simp)
  have hki := hks.keep (hk1.trans' hk3) (by simp)
  unfold law04_WalCrash_s19
  simp [-getElem?_pos, -Array.getElem?_eq_getElem, -List.length_flatten, List.getElem?_cons_zero, List.getElem?_cons_succ, hxi.lenL]
  unfold law04_WalCrash_s18
  by_cases hl : l.length ≤ 20
  · have h8 : ¬ (20 : Int) < l.length := by omega
    simp [-getElem?_pos, -Array.getElem?_eq_getElem, -List.length_flatten, List.getElem?_cons_zero, List.getElem?_cons_succ, h8]
    unfold law04_WalCrash_s17
    have hb : ∀ p, byteAt (DK.fresh 40).now p = ([] : List UInt8).getD p 0 := (gs_fresh 40).bytes
    have c0 : ∀ f, CS ⟨0, 40, 1, [], []⟩ { DK.fresh 40 with fuse := f } [] 0 := fun f =>
      ⟨by simp [fr], by simp [DK.fresh, secs0], fun p hp => by simp [fr] at hp, rfl, ⟨fun p hp => by simp [fr] at hp, fun x hx => by simp [DK.fresh] at hx⟩, by simp⟩
    simp only [hki.lenL, List.length_map, bq_gtr, bV_b]
    refine ⟨fun h => ?_, fun h => ?_⟩
    · have h1 : 0 < ks.length := by simp at h; omega
      obtain ⟨bl, of, T, c, fr', _, hh, hia, _, _, hc⟩ := hki.at (i := 0) (by simpa using h1)
      have hs : c[of]? = some (.int .i64 ks[0]) := by have := hc 0 (by omega); simpa [intV] using this
      have hia' : ∀ K : Value → Prop, ia 1 x2 (.int .i64 0) K = K (.pointer (some ⟨bl, of, none⟩)) := fun K => hia .i64 K
      simp [-getElem?_pos, -Array.getElem?_eq_getElem, -List.length_flatten, List.getElem?_cons_zero, List.getElem?_cons_succ, hia', hh, hs]
      have hm : ks[0] % 128 < 128 := Int.emod_lt_of_pos _ (by omega)
      refine ol_fuse ol1 (ks[0] % 128) (by omega) fun w4 o4 hk4 => ?_
      simp [-getElem?_pos, -Array.getElem?_eq_getElem, -List.length_flatten, List.getElem?_cons_zero, List.getElem?_cons_succ, ]
      exact crash_loop hR o4 (by simp [DK.fresh]) (c0 _) hx hSA hl hks hSK hkw
    · have := c0 (-1)
      exact crash_loop hR ol1 (by simp [DK.fresh]) this hx hSA hl hks hSK hkw
  · have h8 : (20 : Int) < l.length := by omega
    simp [-getElem?_pos, -Array.getElem?_eq_getElem, -List.length_flatten, List.getElem?_cons_zero, List.getElem?_cons_succ, h8]
    exact awake4_spec fun w' hk' => hR w' (ol1.kp.trans' hk')
end
end Go.Proofs
