/- Part of the proof (K3): an engine, rules or contracts of the functions; it states nothing of the claim by itself. -/
import Derived.Test.YtnmooeoajgckmaaK2
import Derived.Test.YtnmooeoajgckmaaK1

/- Layer 4: a log is opened. -/
set_option linter.unusedVariables false
set_option linter.unusedSimpArgs false
namespace Go.Proofs
open Go Go.Q
def allOf (d : DK) (lo n : Nat) : List UInt8 := ((d.now.drop lo).take n).flatten
theorem allOf_succ {d : DK} {lo n : Nat} (h : lo + n < d.now.length) : allOf d lo (n + 1) = allOf d lo n ++ d.now.getD (lo + n) [] := by
  unfold allOf
  rw [List.take_succ_eq_append_getElem (by simp; omega), List.flatten_append]
  simp [List.getD, h]
theorem allOf_len {d : DK} (ok : d.Ok) {lo n : Nat} (h : lo + n ≤ d.now.length) : (allOf d lo n).length = 32 * n := by
  unfold allOf
  rw [flat_len (k := 32) (fun x hx => ok.sz2 x (List.mem_of_mem_drop (List.mem_of_mem_take hx)))]
  simp; omega
theorem mk_func {f : FuncId} {caps : Array Value} {w : World} {K : Value → Prop} : qG Try.prog (Instr.makeFunc (.func f) #[] caps) w K = K (.func (.func f) #[] caps) := qG_of rfl
theorem has57 : hasBody Try.prog 57 = true := by kernel_rfl
theorem open_fn {w : World} {b xb bb : Nat} {d : DK} {S SB : List Nat} {l : List UInt8} (h : DiskAt w b d S) (hx : w.heap[xb]? = some (.cells #[.pointer (some ⟨b, 0, none⟩)] 23)) (hb : Bld w bb l SB) (at_ : Int) (hl : l.length + (d.read at_).1.length < 2 ^ 40) {K : Value → World → Prop}
    (hK : ∀ w' SB', Bld w' bb (l ++ (d.read at_).1) SB' → Kp SB w w' → (∀ x ∈ SB', x ∈ SB ∨ w.heap.size ≤ x) → K (.int .i64 (d.read at_).2) w') : callG Try.prog 57 #[.int .i64 at_, .pointer (some ⟨xb, 0, none⟩), .pointer (some ⟨bb, 0, none⟩)] w K := by
  refine wal_Open_1_call ?_
  simp only [wal_Open_1, wal_Open_1_s0]
  simp [-getElem?_pos, -Array.getElem?_eq_getElem, -List.length_flatten, List.getElem?_cons_zero, List.getElem?_cons_succ, hx]
  refine Read_spec h at_ ?_
  rw [ex0, ex1]
  exact WriteString_spec hb _ hl fun w' SB' h' hk hS => hK w' SB' h' hk hS
theorem open_sectors {w : World} {w0s : Nat} {b xb bb : Nat} {d : DK} {S SB : List Nat} {lo hi : Nat} {lp : Value} (h : DiskAt w b d S) (ok : d.Ok) (hoff : d.off = false) (hx : w.heap[xb]? = some (.cells #[.pointer (some ⟨b, 0, none⟩)] 23)) (hb : Bld w bb [] SB)
    (hd : ∀ x ∈ SB, w0s ≤ x) (hS0 : ∀ x ∈ S, x < w0s) (hx0 : xb ∉ SB) (hxs : w0s ≤ xb) (hxw : xb < w.heap.size) (hws : w0s ≤ w.heap.size) (hlh : lo ≤ hi) (hhi : hi ≤ d.now.length) {K : Value → World → Prop}
    (hK : ∀ w' SB', Bld w' bb (allOf d lo (hi - lo)) SB' → (∀ x ∈ SB', x ∈ SB ∨ w.heap.size ≤ x) → Kp SB w w' → K (.int .i64 0) w') :
    callG Try.prog 56 #[lp, .int .i64 lo, .int .i64 hi, .func (.func 57) #[] #[.pointer (some ⟨xb, 0, none⟩), .pointer (some ⟨bb, 0, none⟩)]] w K := by
  refine wal_Log_sectors_call ?_
  simp only [wal_Log_sectors, wal_Log_sectors_s4, wal_Log_sectors_s3]
  unfold wal_Log_sectors_L2
  have hmost := ok.most
  refine loop_inv (fun m xs wi => ∃ i SBi, lo + i ≤ hi ∧ m = hi - lo - i ∧ xs = [.int .i64 hi, .func (.func 57) #[] #[.pointer (some ⟨xb, 0, none⟩), .pointer (some ⟨bb, 0, none⟩)], .int .i64 ((lo + i : Nat) : Int)] ∧
      Bld wi bb (allOf d lo i) SBi ∧ (∀ x ∈ SBi, x ∈ SB ∨ w.heap.size ≤ x) ∧ Kp SB w wi)
    ?_ (m := hi - lo) ⟨0, SB, by omega, rfl, by rw [Nat.add_zero], by simpa [allOf] using hb, fun x hx => .inl hx, Kp.refl _ _⟩
  rintro m N xs wi ⟨i, SBi, hi', rfl, rfl, hbi, hSi, hki⟩ hN
  simp only [wal_Log_sectors_L2F, wal_Log_sectors_b1, bq_lss, bV_b]
  refine ⟨fun hlt => ?_, fun hge => ?_⟩
  · have hlt : lo + i < hi := by simp at hlt; omega
    refine ⟨has57, ?_⟩
    have hdi : DiskAt wi b d S := h.keep hki fun x hx hm => by have := hd x hm; have := hS0 x hx; omega
    have hxi := hki.get hx hx0
    have hr : d.read ((lo + i : Nat) : Int) = (d.now.getD (lo + i) [], 0) := by
      unfold DK.read
      rw [if_pos ⟨by omega, by omega⟩, if_neg (by simp [hoff]), Int.toNat_natCast]
    have hal := allOf_len ok (lo := lo) (n := i) (by omega)
    have hal2 := allOf_len ok (lo := lo) (n := i + 1) (by omega)
    have hsucc := allOf_succ (d := d) (lo := lo) (n := i) (by omega)
    have hg32 : (d.now.getD (lo + i) []).length ≤ 32 := by
      rw [hsucc, List.length_append] at hal2; omega
    refine open_fn hdi hxi hbi _ (by rw [hr]; simp only; omega) fun w' SB' hb' hk' hS' => ?_
    rw [hr] at hb' ⊢
    simp only at hb'
    rw [← hsucc] at hb'
    have hiw : IntKind.i64.wrap (((lo + i : Nat) : Int) + 1) = ((lo + (i + 1) : Nat) : Int) := by rw [w64 (by omega) (by omega)]; omega
    have hks := hki.size
    have hkk : Kp SB w w' := hki.trans hk' fun x hx hlt => by
      rcases hSi x hx with h | h
      · exact h
      · omega
    have hiw2 : IntKind.i64.wrap ((lo : Int) + (i : Int) + 1) = ((lo + (i + 1) : Nat) : Int) := by rw [w64 (by omega) (by omega)]; omega
    simp [-getElem?_pos, -Array.getElem?_eq_getElem, -List.length_flatten, List.getElem?_cons_zero, List.getElem?_cons_succ, ]
    rw [hiw2]
    refine hN (hi - lo - (i + 1)) _ _ (by omega) ⟨i + 1, SB', by omega, rfl, rfl, hb', fun x hx => ?_, hkk⟩
    rcases hS' x hx with h | h
    · exact hSi x h
    · exact .inr (by omega)
  · have hie : i = hi - lo := by simp at hge; omega
    subst hie
    unfold wal_Log_sectors_s0
    exact hK wi SBi hbi hSi hki
theorem zc107 : zc Try.prog 107 = #[.pointer none, .slice none 0 0] := by kernel_rfl
theorem zc71 : zc Try.prog 71 = #[.pointer none, .int .i64 0, .int .i64 0, .int .i64 0, .slice none 0 0, .string (str [])] := by kernel_rfl
theorem bld71 {x0 x1 x2 x3 : Value} (h0 : one x0 = true) (h1 : one x1 = true) (h2 : one x2 = true) (h3 : one x3 = true) {k : Value → Prop} :
    bld [(0, 1), (1, 1), (2, 1), (3, 1), (4, 1), (5, 1)] (zc Try.prog 71) #[(0, x0), (1, x1), (2, x2), (3, x3)] k = k (.agg #[x0, x1, x2, x3, .slice none 0 0, .string (str [])]) := by
  have g0 := cells_one h0
  have g1 := cells_one h1
  have g2 := cells_one h2
  have g3 := cells_one h3
  rw [zc71]
  unfold bld
  rw [fill_step (off := 0) (size := 1) rfl (by rw [g0]; rfl) (by simp), g0]
  rw [fill_step (off := 1) (size := 1) rfl (by rw [g1]; rfl) (by simp [splice]), g1]
  rw [fill_step (off := 2) (size := 1) rfl (by rw [g2]; rfl) (by simp [splice]), g2]
  rw [fill_step (off := 3) (size := 1) rfl (by rw [g3]; rfl) (by simp [splice]), g3]
  rfl
theorem scanL_used (t : Int) : ∀ f s, usedOf (scanL t f s) ≤ s.length := by
  intro f
  induction f with
  | zero => intro s; simp [scanL, usedOf]
  | succ f ih =>
    intro s
    unfold scanL
    split
    · rename_i h
      obtain ⟨_, _, _, n4, _⟩ := (next_frame t s).1 h
      have h1 := ih (s.drop (10 + lenAt s))
      have h2 := recOf_len n4
      rw [List.length_drop] at h1
      simp only [usedOf, List.map_cons, List.sum_cons] at h1 ⊢
      omega
    · simp [usedOf]
theorem scan_used (t : Int) (s : List UInt8) : usedOf (scan t s) ≤ s.length := scanL_used t _ s
theorem open_kp {w0 : Nat} {w w' : World} {S : List Nat} (h : Kp S w w') (hS : ∀ x ∈ S, w0 ≤ x) {w0w : World} (hk : Kp [] w0w w) (he : w0 = w0w.heap.size) : Kp [] w0w w' :=
  hk.trans h fun x hx hlt => by have := hS x hx; omega
theorem Open_ok {w : World} {b : Nat} {d : DK} {S : List Nat} (h : DiskAt w b d S) (hoff : d.off = false) {lo hi : Nat} (hlh : lo < hi) (hhi : hi ≤ d.now.length) {turn : Int} (ht : turnOk turn = true) {K : Value → World → Prop}
    (hK : ∀ w' a lv SL, LogIs w' a b ⟨lo, hi, turn, scan turn (allOf d lo (hi - lo)), (allOf d lo (hi - lo)).take (usedOf (scan turn (allOf d lo (hi - lo))))⟩ SL lv → Kp [] w w' → w.heap.size ≤ a → (∀ x ∈ SL, w.heap.size ≤ x) →
      K (.tuple #[.pointer (some ⟨a, 0, none⟩), .int .i64 0]) w') : callG Try.prog 35 #[.pointer (some ⟨b, 0, none⟩), .int .i64 lo, .int .i64 hi, .int .i64 turn] w K := by
  refine wal_Open_call ?_
  have ok : d.Ok := by obtain ⟨bs, bn, lv, SL, T, Ts, Tn, rfl, hd⟩ := h; exact hd.ok
  have hSlt : ∀ y ∈ S, y < w.heap.size := fun y hy => by
    obtain ⟨bs, bn, lv, SL, T, Ts, Tn, rfl, hd⟩ := h
    exact hd.live y hy
  have hmost := ok.most
  simp only [wal_Open, wal_Open_s1]
  rw [newG_k]
  obtain ⟨n, hn⟩ : ∃ n, n = w.heap.size := ⟨_, rfl⟩
  obtain ⟨w1, hw1⟩ : ∃ w1, w1 = w.alloc (.cells (Value.cells (.pointer (some ⟨b, 0, none⟩))) 23) := ⟨_, rfl⟩
  have hk1 : Kp [] w w1 := by rw [hw1]; exact (Kp.refl [] w).alloc _
  have hX1 : w1.heap[n]? = some (.cells #[.pointer (some ⟨b, 0, none⟩)] 23) := by rw [hw1, hn]; exact heap_new
  have hs1 : w1.heap.size = n + 1 := by rw [hw1, hn]; simp
  rw [← hn, ← hw1]
  have hlo : ¬ (lo : Int) < 0 := by omega
  simp [-getElem?_pos, -Array.getElem?_eq_getElem, -List.length_flatten, List.getElem?_cons_zero, List.getElem?_cons_succ, hX1]
  refine ⟨fun hbad => by omega, Size_spec (h.keep hk1 (by simp)) ?_⟩
  simp [-getElem?_pos, -Array.getElem?_eq_getElem, -List.length_flatten, List.getElem?_cons_zero, List.getElem?_cons_succ, ]
  refine ⟨fun hbad => by omega, fun _ => ⟨fun hbad => by omega, fun _ => ?_⟩⟩
  refine right_spec turn ?_
  simp [-getElem?_pos, -Array.getElem?_eq_getElem, -List.length_flatten, List.getElem?_cons_zero, List.getElem?_cons_succ, ht]
  unfold wal_Open_s0
  simp only [ld1_p, rd1_mk, hX1]
  have hget : (#[Value.pointer (some ⟨b, 0, none⟩)] : Array Value)[0]? = some (.pointer (some ⟨b, 0, none⟩)) := rfl
  simp only [hget]
  rw [bld71 rfl rfl rfl rfl, newG_k, newG_k, mk_func, zc107]
  have hcells : Value.cells (.agg #[.pointer (some ⟨b, 0, none⟩), .int .i64 lo, .int .i64 hi, .int .i64 turn, .slice none 0 0, .string (str [])]) = #[.pointer (some ⟨b, 0, none⟩), .int .i64 lo, .int .i64 hi, .int .i64 turn, .slice none 0 0, .string (str [])] := rfl
  rw [hcells]
  obtain ⟨w2, hw2⟩ : ∃ w2, w2 = w1.alloc (.cells #[.pointer (some ⟨b, 0, none⟩), .int .i64 lo, .int .i64 hi, .int .i64 turn, .slice none 0 0, .string (str [])] 71) := ⟨_, rfl⟩
  have hk2 : Kp [] w1 w2 := by rw [hw2]; exact (Kp.refl [] w1).alloc _
  have hA2 : w2.heap[n + 1]? = some (.cells #[.pointer (some ⟨b, 0, none⟩), .int .i64 lo, .int .i64 hi, .int .i64 turn, .slice none 0 0, .string (str [])] 71) := by rw [hw2, ← hs1]; exact heap_new
  have hs2 : w2.heap.size = n + 2 := by rw [hw2]; simp [hs1]
  rw [← hw2, hs1, hs2]
  obtain ⟨w3, hw3⟩ : ∃ w3, w3 = w2.alloc (.cells #[.pointer none, .slice none 0 0] 107) := ⟨_, rfl⟩
  have hk3 : Kp [] w2 w3 := by rw [hw3]; exact (Kp.refl [] w2).alloc _
  have hB3 : Bld w3 (n + 2) [] [n + 2] := by rw [hw3, ← hs2]; exact bld_new
  have hs3 : w3.heap.size = n + 3 := by rw [hw3]; simp [hs2]
  rw [← hw3]
  have hk13 := (hk1.trans' hk2).trans' hk3
  have hX3 := (hk2.trans' hk3).get hX1 (by simp)
  have hA3 := hk3.get hA2 (by simp)
  refine open_sectors (w0s := n) (SB := [n + 2]) (h.keep hk13 (by simp)) ok hoff hX3 hB3 (by simp) (by intro x hx; have := hSlt x hx; omega) (by simp) (by omega) (by omega) (by omega) (by omega) hhi fun w4 SB4 hB4 hS4 hk4 => ?_
  obtain ⟨all, hall⟩ : ∃ all, all = allOf d lo (hi - lo) := ⟨_, rfl⟩
  have hlen : all.length = 32 * (hi - lo) := by rw [hall]; exact allOf_len ok (by omega)
  rw [← hall] at hB4 hK
  have hA4 := hk4.get hA3 (by simp)
  have hs4 := hk4.size
  have hS4' : ∀ x ∈ SB4, n + 2 ≤ x := fun x hx => by
    rcases hS4 x hx with h | h
    · simp at h; omega
    · omega
  have ha4 : n + 1 ∉ SB4 := fun hm => by have := hS4' _ hm; omega
  simp [-getElem?_pos, -Array.getElem?_eq_getElem, -List.length_flatten, List.getElem?_cons_zero, List.getElem?_cons_succ, ]
  refine String_spec hB4.done (by omega) fun w5 hB5 hk5 => ?_
  have hs5 := hk5.size
  refine Scan_spec turn all (by omega) fun w6 v S6 hr6 hk6 hS6 => ?_
  have hA6 := hk6.get (hk5.get hA4 ha4) (by simp)
  have l6 := live_of hA6
  have hs6 := hk6.size
  have hv := rows_one hr6
  rw [ex0, ex1]
  simp [-getElem?_pos, -Array.getElem?_eq_getElem, -List.length_flatten, List.getElem?_cons_zero, List.getElem?_cons_succ, hA6, l6, hv]
  obtain ⟨w7, hw7⟩ : ∃ w7, w7 = setBlk w6 (n + 1) (.cells #[.pointer (some ⟨b, 0, none⟩), .int .i64 lo, .int .i64 hi, .int .i64 turn, v, .string (str [])] 71) := ⟨_, rfl⟩
  have hk7 : Kp [n + 1] w6 w7 := by rw [hw7]; exact (Kp.refl _ w6).setBlk (.inl (by simp)) _
  have hA7 : w7.heap[n + 1]? = some (.cells #[.pointer (some ⟨b, 0, none⟩), .int .i64 lo, .int .i64 hi, .int .i64 turn, v, .string (str [])] 71) := by rw [hw7]; exact heap_self l6
  rw [← hw7]
  have hB7 := (hB5.keep hk6 (by simp)).keep hk7 fun x hx => by have := hS4' x hx; simp; omega
  refine String_spec hB7 (by omega) fun w8 hB8 hk8 => ?_
  have hA8 := hk8.get hA7 ha4
  have l8 := live_of hA8
  have hus := scan_used turn all
  have hext : (str all).extract 0 (usedOf (scan turn all)) = str (all.take (usedOf (scan turn all))) := by rw [str_extract]; rfl
  simp [-getElem?_pos, -Array.getElem?_eq_getElem, -List.length_flatten, List.getElem?_cons_zero, List.getElem?_cons_succ, hA8, l8, hext, hus]
  have hk9 : Kp [n + 1] w8 (setBlk w8 (n + 1) (.cells #[.pointer (some ⟨b, 0, none⟩), .int .i64 lo, .int .i64 hi, .int .i64 turn, v, .string (str (all.take (usedOf (scan turn all))))] 71)) := (Kp.refl _ w8).setBlk (.inl (by simp)) _
  have hne6 : ∀ x ∈ S6, x ≠ n + 1 ∧ x ∉ SB4 := fun x hx => by
    have h5 := hS6 x hx
    refine ⟨by omega, fun hm => ?_⟩
    have hlive := (hB5.keep (Kp.refl [] w5) (by simp))
    have : x < w4.heap.size := hB4.live x hm
    omega
  have e1 : Kp [] w w6 := ((open_kp hk4 (w0 := n) (by simp) hk13 hn).trans hk5 fun x hx hlt => by have := hS4' x hx; omega).trans' hk6
  have e2 : Kp [] w w8 := (e1.trans hk7 fun x hx hlt => by simp at hx; omega).trans hk8 fun x hx hlt => by have := hS4' x hx; omega
  refine hK _ (n + 1) v S6 ⟨heap_self l8, ?_, fun hm => (hne6 _ hm).1 rfl⟩ (e2.trans hk9 fun x hx hlt => by simp at hx; omega) (by omega) (fun x hx => by have := hS6 x hx; have := hk13.size; omega)
  exact ((hr6.keep hk7 fun x hx => by have := hne6 x hx; simp; exact this.1).keep hk8 fun x hx => (hne6 x hx).2).keep hk9 fun x hx => by have := hne6 x hx; simp; exact this.1
end Go.Proofs

/- Layer 4: Sync; one sector of a log is written. -/
set_option linter.unusedVariables false
set_option linter.unusedSimpArgs false
namespace Go.Proofs
open Go Go.Q
theorem Sync_spec {w : World} {a b : Nat} {g : LG} {SL S : List Nat} {lv : Value} {d : DK} (h : LogIs w a b g SL lv) (hd : DiskAt w b d S) (hl : d.l.length < 2 ^ 40) {K : Value → World → Prop}
    (hK : ∀ w', DiskAt w' b d.flush.1 S → Kp S w w' → K (.int .i64 d.flush.2) w') : callG Try.prog 39 #[.pointer (some ⟨a, 0, none⟩)] w K := by
  refine wal_Log_Sync_call ?_
  simp only [wal_Log_Sync, wal_Log_Sync_s0]
  refine given_spec h ?_
  simp [-getElem?_pos, -Array.getElem?_eq_getElem, -List.length_flatten, List.getElem?_cons_zero, List.getElem?_cons_succ, h.1]
  exact Flush_spec hd hl hK
/-- the bytes of a log's sector 'k' -/
def secOf (all : List UInt8) (k : Nat) : List UInt8 := (all.take (min (32 * k + 32) all.length)).drop (32 * k)
/-- one sector is written: what is there is kept behind the log's bytes -/
def putK (d : DK) (lo : Nat) (all : List UInt8) (k : Nat) : DK × Int :=
  if (d.read ((lo + k : Nat) : Int)).2 = 0 then d.write ((lo + k : Nat) : Int) (secOf all k ++ (d.read ((lo + k : Nat) : Int)).1.drop (secOf all k).length) else (d, (d.read ((lo + k : Nat) : Int)).2)
theorem read_len {d : DK} (ok : d.Ok) {at_ : Int} (h : (d.read at_).2 = 0) : (d.read at_).1.length = 32 := by
  unfold DK.read at h ⊢
  split
  · rename_i hc
    rw [if_pos hc] at h
    split
    · rename_i ho; rw [if_pos ho] at h; simp at h
    · have hi : at_.toNat < d.now.length := by omega
      simp only [List.getD, List.getElem?_eq_getElem hi, Option.getD_some]
      exact ok.sz2 _ (List.getElem_mem hi)
  · rename_i hc
    rw [if_neg hc] at h
    simp at h
theorem add_fn {w : World} {a b xa xl : Nat} {g : LG} {SL S : List Nat} {lv : Value} {d : DK} {all : List UInt8} (h : LogIs w a b g SL lv) (hd : DiskAt w b d S) (hl : d.l.length < 2 ^ 40)
    (hxa : w.heap[xa]? = some (.cells #[.string (str all)] 9)) (hxl : w.heap[xl]? = some (.cells #[.pointer (some ⟨a, 0, none⟩)] 64)) {k lo : Nat} (hlo : g.lo = (lo : Int)) (hk : 32 * k < all.length) (hall : all.length < 2 ^ 40) (hlo2 : lo < 2 ^ 40) {K : Value → World → Prop}
    (hK : ∀ w' S', DiskAt w' b (putK d lo all k).1 S' → Kp S w w' → (∀ x ∈ S', x ∈ S ∨ w.heap.size ≤ x) → K (.int .i64 (putK d lo all k).2) w') :
    callG Try.prog 62 #[.int .i64 k, .pointer (some ⟨xa, 0, none⟩), .pointer (some ⟨xl, 0, none⟩)] w K := by
  refine wal_Log_Add_1_call ?_
  simp only [wal_Log_Add_1, wal_Log_Add_1_s0]
  have ok : d.Ok := by obtain ⟨bs, bn, lv, SL, T, Ts, Tn, rfl, hd⟩ := hd; exact hd.ok
  have h32 : IntKind.i64.wrap (32 * (k : Int)) = 32 * (k : Int) := w64 (by omega) (by omega)
  have h64 : IntKind.i64.wrap (32 * (k : Int) + 32) = 32 * (k : Int) + 32 := w64 (by omega) (by omega)
  obtain ⟨x, hx⟩ : ∃ x, x = min (32 * k + 32) all.length := ⟨_, rfl⟩
  have hmin : min (32 * (k : Int) + 32) (all.length : Int) = (x : Int) := by omega
  have hlk : IntKind.i64.wrap ((lo : Int) + (k : Int)) = (lo : Int) + (k : Int) := w64 (by omega) (by omega)
  have hA := h.1
  rw [hlo] at hA
  have htn : (32 * (k : Int)).toNat = 32 * k := by omega
  have hsec : (str all).extract (32 * k) x = str (secOf all k) := by rw [str_extract, hx]; rfl
  have hb1 : (0 : Int) ≤ x ∧ (x : Int) ≤ all.length := by omega
  have hb2 : (0 : Int) ≤ 32 * (k : Int) ∧ 32 * (k : Int) ≤ x := by omega
  have hsl : (secOf all k).length = x - 32 * k := by unfold secOf; rw [← hx]; simp; omega
  simp [-getElem?_pos, -Array.getElem?_eq_getElem, -List.length_flatten, List.getElem?_cons_zero, List.getElem?_cons_succ, hxa, hxl, hA, h32, h64, hmin, hlk, htn, hsec]
  refine ⟨by omega, by omega, ?_⟩
  refine Read_spec (hd.keep (Kp.refl [] w).drew (by simp)) _ ?_
  unfold putK at hK
  have hcast : ((lo + k : Nat) : Int) = (lo : Int) + (k : Int) := by simp
  rw [hcast] at hK
  simp [-getElem?_pos, -Array.getElem?_eq_getElem, -List.length_flatten, List.getElem?_cons_zero, List.getElem?_cons_succ, hxa, hxl, hA, hlk]
  have hmx : min x all.length = x := by omega
  rw [hmx]
  have hkd : Kp S w w.drew.drew := (Kp.refl _ _).drew.drew
  refine ⟨fun he => ?_, fun h0 => ⟨?_, ?_⟩⟩
  · rw [if_neg he] at hK
    exact hK w.drew S (hd.keep (Kp.refl [] w).drew (by simp)) (Kp.refl _ _).drew (fun x hx => .inl hx)
  · have := read_len ok h0
    omega
  · have hr := read_len ok h0
    rw [if_pos h0] at hK
    have hext : (str (d.read ((lo : Int) + (k : Int))).1).extract (x - 32 * k) (d.read ((lo : Int) + (k : Int))).1.length = str ((d.read ((lo : Int) + (k : Int))).1.drop (secOf all k).length) := by
      rw [str_extract, List.take_length, hsl]
    rw [hext, bq_sadd (by simp [hsl]; omega), str_append]
    refine Write_spec (hd.keep (Kp.refl [] w).drew.drew (by simp)) hl _ _ fun w' S' h' hk hS => ?_
    exact hK w' S' h' (hkd.trans' hk) hS
end Go.Proofs

/- Layer 4: a log's sectors are written. -/
set_option linter.unusedVariables false
set_option linter.unusedSimpArgs false
namespace Go.Proofs
open Go Go.Q
theorem write_l (d : DK) (at_ : Int) (s : List UInt8) : (d.write at_ s).1.l.length ≤ d.l.length + 1 := by
  obtain ⟨b1, b2⟩ := burns_same d
  unfold DK.write
  split
  · split
    · simp
    · show d.burns.1.l.length ≤ d.l.length + 1
      rw [b2]; omega
  · exact Nat.le_succ _
theorem putK_l (d : DK) (lo : Nat) (all : List UInt8) (k : Nat) : (putK d lo all k).1.l.length ≤ d.l.length + 1 := by
  unfold putK
  split
  · exact write_l _ _ _
  · exact Nat.le_succ _
def putN (lo : Nat) (all : List UInt8) : DK → Nat → Nat → DK × Int
  | d, _, 0 => (d, 0)
  | d, k, n + 1 => if (putK d lo all k).2 = 0 then putN lo all (putK d lo all k).1 (k + 1) n else putK d lo all k
theorem has62 : hasBody Try.prog 62 = true := by kernel_rfl
theorem add_sectors {w : World} {a b xa xl : Nat} {g : LG} {SL S : List Nat} {lv lp : Value} {d : DK} {all : List UInt8} (h : LogIs w a b g SL lv) (hd : DiskAt w b d S)
    (hxa : w.heap[xa]? = some (.cells #[.string (str all)] 9)) (hxl : w.heap[xl]? = some (.cells #[.pointer (some ⟨a, 0, none⟩)] 64)) {first last lo : Nat} (hlo : g.lo = (lo : Int)) (hk : 32 * last < all.length + 32) (hfl : first ≤ last) (hall : all.length < 2 ^ 30) (hlo2 : lo < 2 ^ 40)
    (hl : d.l.length + (last - first) < 2 ^ 40) (haS : a ∉ S) (hxaS : xa ∉ S) (hxlS : xl ∉ S) (hSL : ∀ x ∈ SL, x ∉ S) {K : Value → World → Prop}
    (hK : ∀ w' S', DiskAt w' b (putN lo all d first (last - first)).1 S' → Kp S w w' → (∀ x ∈ S', x ∈ S ∨ w.heap.size ≤ x) → K (.int .i64 (putN lo all d first (last - first)).2) w') :
    callG Try.prog 56 #[lp, .int .i64 first, .int .i64 last, .func (.func 62) #[] #[.pointer (some ⟨xa, 0, none⟩), .pointer (some ⟨xl, 0, none⟩)]] w K := by
  refine wal_Log_sectors_call ?_
  simp only [wal_Log_sectors, wal_Log_sectors_s4, wal_Log_sectors_s3]
  unfold wal_Log_sectors_L2
  have ha : a < w.heap.size := lt_of_blk h.1
  have hxa' : xa < w.heap.size := lt_of_blk hxa
  have hxl' : xl < w.heap.size := lt_of_blk hxl
  refine loop_inv (fun m xs wi => ∃ k dk Sk, first ≤ k ∧ k ≤ last ∧ m = last - k ∧ xs = [.int .i64 last, .func (.func 62) #[] #[.pointer (some ⟨xa, 0, none⟩), .pointer (some ⟨xl, 0, none⟩)], .int .i64 (k : Nat)] ∧
      putN lo all d first (last - first) = putN lo all dk k (last - k) ∧ DiskAt wi b dk Sk ∧ dk.l.length ≤ d.l.length + (k - first) ∧ Kp S w wi ∧ ∀ x ∈ Sk, x ∈ S ∨ w.heap.size ≤ x)
    ?_ (m := last - first) ⟨first, d, S, by omega, hfl, rfl, rfl, rfl, hd, by omega, Kp.refl _ _, fun x hx => .inl hx⟩
  rintro m N xs wi ⟨k, dk, Sk, hk1, hk2, rfl, rfl, hput, hdk, hlk, hkp, hSk⟩ hN
  simp only [wal_Log_sectors_L2F, wal_Log_sectors_b1, bq_lss, bV_b]
  refine ⟨fun hlt => ?_, fun hge => ?_⟩
  · have hlt : k < last := by simp at hlt; omega
    refine ⟨has62, ?_⟩
    have hi := h.keep hkp haS hSL
    refine add_fn hi hdk (by omega) (hkp.get hxa hxaS) (hkp.get hxl hxlS) (k := k) hlo (by omega) (by omega) hlo2 fun w' S' hd' hk' hS' => ?_
    have hks := hkp.size
    have hkk : Kp S w w' := hkp.trans hk' fun x hx hlt => by
      rcases hSk x hx with h | h
      · exact h
      · omega
    have hSS : ∀ x ∈ S', x ∈ S ∨ w.heap.size ≤ x := fun x hx => by
      rcases hS' x hx with h | h
      · exact hSk x h
      · exact .inr (by omega)
    have hn : last - k = (last - (k + 1)) + 1 := by omega
    rw [hn] at hput
    simp only [putN] at hput
    simp [-getElem?_pos, -Array.getElem?_eq_getElem, -List.length_flatten, List.getElem?_cons_zero, List.getElem?_cons_succ, ]
    refine ⟨fun he => ?_, fun he => ?_⟩
    · rw [if_neg he] at hput
      have := hK w' S' (by rw [hput]; exact hd') hkk hSS
      rw [hput] at this
      exact this
    · rw [if_pos he] at hput
      have hiw : IntKind.i64.wrap ((k : Int) + 1) = ((k + 1 : Nat) : Int) := by rw [w64 (by omega) (by omega)]; simp
      rw [hiw]
      have hpl := putK_l dk lo all k
      exact hN (last - (k + 1)) _ _ (by omega) ⟨k + 1, _, S', by omega, by omega, rfl, rfl, hput, hd', by omega, hkk, hSS⟩
  · have hke : k = last := by simp at hge; omega
    subst hke
    rw [Nat.sub_self] at hput
    unfold wal_Log_sectors_s0
    have := hK wi Sk (by rw [hput]; exact hdk) hkp hSk
    rw [hput] at this
    exact this
end Go.Proofs

/- Layer 4: what is added, ahead of the writes. -/
set_option linter.unusedVariables false
set_option linter.unusedSimpArgs false
namespace Go.Proofs
open Go Go.Q
def addRun (turn room : Int) : List (List UInt8) → List UInt8 → Bool → Int × List UInt8 × Bool
  | [], b, full => (0, b, full)
  | s :: r, b, full =>
    if (frame turn s).2 = 0 then
      (if full = true ∨ ((frame turn s).1.length : Int) > room - (b.length : Int) then addRun turn room r b true else addRun turn room r (b ++ (frame turn s).1) false)
    else ((frame turn s).2, b, full)
theorem addRun_cons (turn room : Int) (s : List UInt8) (r : List (List UInt8)) (b : List UInt8) (full : Bool) : addRun turn room (s :: r) b full =
    if (frame turn s).2 = 0 then
      (if full = true ∨ ((frame turn s).1.length : Int) > room - (b.length : Int) then addRun turn room r b true else addRun turn room r (b ++ (frame turn s).1) false)
    else ((frame turn s).2, b, full) := rfl
theorem addRun_len (turn room : Int) (hr : 0 ≤ room) : ∀ (r : List (List UInt8)) (b : List UInt8) (full : Bool), (b.length : Int) ≤ room → ((addRun turn room r b full).2.1.length : Int) ≤ room := by
  intro r
  induction r with
  | nil => intro b full h; exact h
  | cons s r ih =>
    intro b full h
    unfold addRun
    split
    · split
      · exact ih b true h
      · rename_i hn
        refine ih _ _ ?_
        rw [not_or] at hn
        rw [List.length_append]
        omega
    · exact h
theorem frame_len_le (t : Int) (s : List UInt8) : (frame t s).1.length ≤ 1034 := by
  unfold frame
  split
  · rename_i h; rw [frameB_len]; omega
  · simp
theorem add_loop {w : World} {a bb xl b : Nat} {g : LG} {SL SB : List Nat} {lv gv : Value} {group : List (List UInt8)} {SG : List Nat} {room : Int} {R : Value → World → Prop}
    (h : LogIs w a b g SL lv) (hgv : ArgAt w gv 1 (group.map strV) SG) (hxl : w.heap[xl]? = some (.cells #[.pointer (some ⟨a, 0, none⟩)] 64)) (hB : Bld w bb [] SB) (haB : a ∉ SB) (hLB : ∀ x ∈ SL, x ∉ SB) (hGB : ∀ x ∈ SG, x ∉ SB) (hxB : xl ∉ SB)
    (hgl : group.length < 2 ^ 40) (hgs : ∀ s ∈ group, s.length < 2 ^ 62) (hroom : 0 ≤ room ∧ room < 2 ^ 30)
    (hbad : ∀ w' e, Kp SB w w' → (addRun g.turn room group [] false).1 = e → e ≠ 0 → R (.int .i64 e) w')
    (hend : ∀ w' SB', Kp SB w w' → (addRun g.turn room group [] false).1 = 0 → Bld w' bb (addRun g.turn room group [] false).2.1 SB' → (∀ x ∈ SB', x ∈ SB ∨ w.heap.size ≤ x) →
      wal_Log_Add_s1 R gv (.pointer (some ⟨xl, 0, none⟩)) (.pointer (some ⟨bb, 0, none⟩)) (.bool (addRun g.turn room group [] false).2.2) w') :
    wal_Log_Add_s4 R gv (.pointer (some ⟨xl, 0, none⟩)) (.pointer (some ⟨bb, 0, none⟩)) (.int .i64 room) (.bool false) w := by
  unfold wal_Log_Add_s4
  rw [hgv.lenL]
  unfold wal_Log_Add_L3
  simp only [List.length_map]
  refine loop_inv (fun m xs wi => ∃ i bi fi SBi, i ≤ group.length ∧ m = group.length - i ∧ xs = [gv, .pointer (some ⟨xl, 0, none⟩), .pointer (some ⟨bb, 0, none⟩), .int .i64 room, .bool fi, gv, .int .i64 group.length, .int .i64 (i : Nat)] ∧
      addRun g.turn room group [] false = addRun g.turn room (group.drop i) bi fi ∧ Bld wi bb bi SBi ∧ (bi.length : Int) ≤ room ∧ Kp SB w wi ∧ ∀ x ∈ SBi, x ∈ SB ∨ w.heap.size ≤ x)
    ?_ (m := group.length) ⟨0, [], false, SB, by omega, rfl, rfl, rfl, hB, by simpa using hroom.1, Kp.refl _ _, fun x hx => .inl hx⟩
  rintro m N xs wi ⟨i, bi, fi, SBi, hi, rfl, rfl, hrun, hbi, hbl, hk, hSi⟩ hN
  simp only [wal_Log_Add_L3F, wal_Log_Add_b2, bq_lss, bV_b]
  refine ⟨fun hlt' => ?_, fun hge => ?_⟩
  · have hi : i < group.length := by simpa using hlt'
    have hiw : IntKind.i64.wrap ((i : Int) + 1) = ((i + 1 : Nat) : Int) := by rw [w64 (by omega) (by omega)]; simp
    have hgi := hgv.keep hk hGB
    obtain ⟨bl, o, T, c, fr, _, hh, hia, _, _, hc⟩ := hgi.at (i := i) (by simpa using hi)
    have h1 : c[o]? = some (.string (str group[i])) := by have := hc 0 (by omega); simpa [strV] using this
    have hxi := hk.get hxl hxB
    have hAi := hk.get h.1 haB
    rw [List.drop_eq_getElem_cons hi] at hrun
    rw [addRun_cons] at hrun
    simp [-getElem?_pos, -Array.getElem?_eq_getElem, -List.length_flatten, List.getElem?_cons_zero, List.getElem?_cons_succ, hia, hh, h1, hxi, hAi]
    refine Frame_spec g.turn group[i] (hgs _ (List.getElem_mem hi)) fun w1 hk1 => ?_
    have hk1' : Kp SB w w1 := hk.trans hk1 (by simp)
    have hb1 := hbi.keep hk1 (by simp)
    have hfl := frame_len_le g.turn group[i]
    have hs1 := hk1'.size
    rw [ex0, ex1]
    simp [-getElem?_pos, -Array.getElem?_eq_getElem, -List.length_flatten, List.getElem?_cons_zero, List.getElem?_cons_succ, ]
    refine ⟨fun he => ?_, fun he => ?_⟩
    · rw [if_neg he] at hrun
      exact hbad w1 _ hk1' (by rw [hrun]) he
    rw [if_pos he] at hrun
    have write : addRun g.turn room group [] false = addRun g.turn room (group.drop (i + 1)) (bi ++ (frame g.turn group[i]).1) false → ((bi ++ (frame g.turn group[i]).1).length : Int) ≤ room →
        callG Try.prog 58 #[.pointer (some ⟨bb, 0, none⟩), .string (str (frame g.turn group[i]).1)] w1 fun t64 w => N [gv, .pointer (some ⟨xl, 0, none⟩), .pointer (some ⟨bb, 0, none⟩), .int .i64 room, .bool false, gv, .int .i64 group.length, .int .i64 ((i + 1 : Nat) : Int)] w := by
      intro hr hlen
      refine WriteString_spec hb1 _ (by rw [List.length_append] at hlen; omega) fun w2 S2 hb2 hk2 hS2 => ?_
      have hkk : Kp SB w w2 := hk1'.trans hk2 fun x hx hlt => by
        rcases hSi x hx with h | h
        · exact h
        · omega
      refine hN (group.length - (i + 1)) _ _ (by omega) ⟨i + 1, _, false, S2, by omega, rfl, rfl, hr, hb2, hlen, hkk, fun x hx => ?_⟩
      rcases hS2 x hx with h | h
      · exact hSi x h
      · exact .inr (by omega)
    have skip : addRun g.turn room group [] false = addRun g.turn room (group.drop (i + 1)) bi true →
        N [gv, .pointer (some ⟨xl, 0, none⟩), .pointer (some ⟨bb, 0, none⟩), .int .i64 room, .bool true, gv, .int .i64 group.length, .int .i64 ((i + 1 : Nat) : Int)] w1 := fun hr =>
      hN (group.length - (i + 1)) _ _ (by omega) ⟨i + 1, bi, true, SBi, by omega, rfl, rfl, hr, hb1, hbl, hk1', hSi⟩
    rw [hiw]
    refine ⟨fun hf => ?_, fun hf => ?_⟩
    · rw [if_pos (.inl hf)] at hrun
      exact skip hrun
    · refine Len_spec hb1.done ?_
      have hsub : IntKind.i64.wrap (room - (bi.length : Int)) = room - (bi.length : Int) := w64 (by omega) (by omega)
      simp only [bq_sub, hsub, bq_gtr]
      by_cases hbig : ((frame g.turn group[i]).1.length : Int) > room - (bi.length : Int)
      · rw [if_pos (.inr hbig)] at hrun
        simp only [hbig, decide_true]
        simp [-getElem?_pos, -Array.getElem?_eq_getElem, -List.length_flatten, List.getElem?_cons_zero, List.getElem?_cons_succ, ]
        exact skip hrun
      · rw [if_neg (by rw [hf]; simp; omega)] at hrun
        simp only [hbig, decide_false]
        simp [-getElem?_pos, -Array.getElem?_eq_getElem, -List.length_flatten, List.getElem?_cons_zero, List.getElem?_cons_succ, ]
        exact write hrun (by rw [List.length_append]; omega)
  · have hie : i = group.length := by simp at hge; omega
    subst hie
    rw [List.drop_length] at hrun
    have h0 : (addRun g.turn room group [] false).1 = 0 := by rw [hrun]; rfl
    have h2 : addRun g.turn room [] bi fi = (0, bi, fi) := rfl
    rw [h2] at hrun
    have := hend wi SBi hk h0 (by rw [hrun]; exact hbi) hSi
    rw [hrun] at this
    exact this
end Go.Proofs

/- Layer 4: Add. -/
set_option linter.unusedVariables false
set_option linter.unusedSimpArgs false
namespace Go.Proofs
open Go Go.Q
def roomOf (g : LG) : Int := 32 * (g.hi - g.lo) - g.used.length
/-- what Add comes to: the disk, the result, and the log where all went well -/
def addG (g : LG) (d : DK) (group : List (List UInt8)) : LG × DK × Int :=
  let r := addRun g.turn (roomOf g) group [] false
  if r.1 ≠ 0 then (g, d, r.1)
  else if r.2.2 = true then (g, d, 2)
  else
    let all := g.used ++ r.2.1
    let p := if 0 < r.2.1.length then putN g.lo.toNat all d (g.used.length / 32) ((all.length + 31) / 32 - g.used.length / 32) else (d, 0)
    if p.2 = 0 then ({ g with l := g.l ++ group, used := all }, p.1, 0) else (g, p.1, p.2)
/-- the end: the log has the records -/
theorem add_s0 {w : World} {a b xa xl : Nat} {g : LG} {SL : List Nat} {lv gv : Value} {group : List (List UInt8)} {SG : List Nat} {all : List UInt8} {R : Value → World → Prop}
    (h : LogIs w a b g SL lv) (hgv : ArgAt w gv 1 (group.map strV) SG) (hxl : w.heap[xl]? = some (.cells #[.pointer (some ⟨a, 0, none⟩)] 64)) (hxa : w.heap[xa]? = some (.cells #[.string (str all)] 9))
    (hgl : g.l.length + group.length < 2 ^ 40) (hxlS : xl ∉ SL) (hxaS : xa ∉ SL) (hne1 : a ≠ xl) (hne2 : a ≠ xa)
    (hR : ∀ w' SL' lv', LogIs w' a b { g with l := g.l ++ group, used := all } SL' lv' → Kp (a :: SL) w w' → (∀ x ∈ SL', x ∈ SL ∨ w.heap.size ≤ x) → R (.int .i64 0) w') :
    wal_Log_Add_s0 R gv (.pointer (some ⟨xl, 0, none⟩)) (.pointer (some ⟨xa, 0, none⟩)) w := by
  unfold wal_Log_Add_s0
  obtain ⟨hA, hL, haS⟩ := h
  simp [-getElem?_pos, -Array.getElem?_eq_getElem, -List.length_flatten, List.getElem?_cons_zero, List.getElem?_cons_succ, hxl, hxa, hA]
  have hone := strV_one group
  have hgd := hgv.keep (Kp.refl [] w).drew (by simp)
  rw [zc9]
  refine rows_app (k := 1) (z := [.string ⟨#[]⟩]) (G := group.map strV) (hL.keep (Kp.refl [] w).drew (by simp)) (by omega) rfl (fun y hy => hgv.row hy) hone (fun K' hK' => hgd.src K' hK') (by simp; omega) (by simp; omega) fun v2 w2 S2 h2 hk2 hS2 => ?_
  have hkd : Kp SL w w2 := (Kp.refl _ w).drew.trans' hk2
  have hxl2 := hkd.get hxl hxlS
  have hxa2 := hkd.get hxa hxaS
  have hA2 := hkd.get hA haS
  have l2 := live_of hA2
  have hv2 := rows_one h2
  simp [-getElem?_pos, -Array.getElem?_eq_getElem, -List.length_flatten, List.getElem?_cons_zero, List.getElem?_cons_succ, hxl2, hxa2, hA2, l2, hv2, heap_self, heap_ne, hne1, hne2]
  have halive : a < w.heap.size := lt_of_blk hA
  have haS2 : a ∉ S2 := fun hm => by
    rcases hS2 a hm with h | h
    · exact haS h
    · simp only [heap_drew] at h; omega
  have hk3 : Kp [a] w2 (setBlk w2 a (.cells #[.pointer (some ⟨b, 0, none⟩), .int .i64 g.lo, .int .i64 g.hi, .int .i64 g.turn, v2, .string (str all)] 71)) := (Kp.refl _ w2).setBlk (.inl (by simp)) _
  refine hR _ S2 v2 ⟨heap_self l2, ?_, haS2⟩ ?_ ?_
  · show RowsAt _ v2 1 (List.map strV (g.l ++ group)) S2
    rw [List.map_append]
    exact h2.keep hk3 fun x hx => by simp; intro hh; exact haS2 (hh ▸ hx)
  · exact (hkd.mono fun x hx _ => by simp [hx]).trans hk3 fun x hx _ => by simp at hx; simp [hx]
  · intro x hx
    rcases hS2 x hx with h | h
    · exact .inl h
    · exact .inr (by simpa using h)
end Go.Proofs

/- Layer 4: Add, the whole. -/
set_option linter.unusedVariables false
set_option linter.unusedSimpArgs false
namespace Go.Proofs
open Go Go.Q
theorem zc9' : zc Try.prog 9 = #[.string (str [])] := by kernel_rfl
theorem add_s1 {w : World} {a b bb xl : Nat} {g : LG} {SL S SB SG : List Nat} {lv gv : Value} {group : List (List UInt8)} {d : DK} {r : List UInt8} {full : Bool} {R : Value → World → Prop} {lo : Nat}
    (h : LogIs w a b g SL lv) (hd : DiskAt w b d S) (hgv : ArgAt w gv 1 (group.map strV) SG) (hxl : w.heap[xl]? = some (.cells #[.pointer (some ⟨a, 0, none⟩)] 64)) (hB : Bld w bb r SB)
    (haB : a ∉ SB) (hLB : ∀ x ∈ SL, x ∉ SB) (hGB : ∀ x ∈ SG, x ∉ SB) (hxB : xl ∉ SB) (hSB : ∀ x ∈ S, x ∉ SB) (haS : a ∉ S) (hxlS : xl ∉ S) (hLS : ∀ x ∈ SL, x ∉ S) (hGS : ∀ x ∈ SG, x ∉ S) (hxlL : xl ∉ SL) (hne : a ≠ xl)
    (hgl : g.l.length + group.length < 2 ^ 39) (hlo : g.lo = (lo : Int)) (hlo2 : lo < 2 ^ 40) (hul : g.used.length + r.length < 2 ^ 30) (hdl : d.l.length < 2 ^ 39)
    (hlive : ∀ x ∈ SL ++ S ++ SG, x < w.heap.size)
    (hfull : full = true → R (.int .i64 2) w)
    (hdone : full = false → ∀ w' g' d' e S' SL' lv', (let p := if 0 < r.length then putN lo (g.used ++ r) d (g.used.length / 32) (((g.used ++ r).length + 31) / 32 - g.used.length / 32) else (d, 0)
        d' = p.1 ∧ e = p.2 ∧ g' = if p.2 = 0 then { g with l := g.l ++ group, used := g.used ++ r } else g) →
      LogIs w' a b g' SL' lv' → DiskAt w' b d' S' → (∀ x ∈ S', x ∈ S ∨ w.heap.size ≤ x) → (∀ x ∈ SL', x ∈ SL ∨ w.heap.size ≤ x) → (∀ x ∈ SL', x ∉ S') → a ∉ S' → Kp (a :: (SL ++ S ++ SB)) w w' → R (.int .i64 e) w') :
    wal_Log_Add_s1 R gv (.pointer (some ⟨xl, 0, none⟩)) (.pointer (some ⟨bb, 0, none⟩)) (.bool full) w := by
  unfold wal_Log_Add_s1
  simp only [bV_b]
  refine ⟨hfull, fun hf => ?_⟩
  have hdone := hdone hf
  have hA := h.1
  have ha : a < w.heap.size := lt_of_blk hA
  have hxlw : xl < w.heap.size := lt_of_blk hxl
  have hall : (str g.used).size + (str r).size < 9223372036854775808 := by simp; omega
  -- what follows, in either order
  have tail : ∀ (wT : World) (xa : Nat), w.heap.size ≤ xa → wT.heap[xa]? = some (.cells #[.string (str (g.used ++ r))] 9) → Kp SB w wT → BldD wT bb r SB → xa ∉ SB →
      (ld1 (.pointer (some ⟨xl, 0, none⟩)) wT fun t73 =>
        nk t73 fun t74 => fa 5 t74 fun t75 => ld1 t75 wT fun t76 => lenS t76 fun t77 =>
        qG Try.prog (bq .quo 3 (.tmp 77) (.const (.int .i64 32)) t77 (.int .i64 32)) wT fun t78 =>
        callG Try.prog 61 #[.pointer (some ⟨bb, 0, none⟩)] wT fun t79 w =>
        qG Try.prog (bq .gtr 3 (.tmp 79) (.const (.int .i64 0)) t79 (.int .i64 0)) w fun t80 =>
        bV t80
        (ld1 (.pointer (some ⟨xl, 0, none⟩)) w fun t81 =>
        ld1 (.pointer (some ⟨xa, 0, none⟩)) w fun t83 =>
        lenS t83 fun t84 =>
        qG Try.prog (bq .add 3 (.tmp 84) (.const (.int .i64 32)) t84 (.int .i64 32)) w fun t85 =>
        qG Try.prog (bq .sub 3 (.tmp 85) (.const (.int .i64 1)) t85 (.int .i64 1)) w fun t86 =>
        qG Try.prog (bq .quo 3 (.tmp 86) (.const (.int .i64 32)) t86 (.int .i64 32)) w fun t87 =>
        qG Try.prog (Instr.makeFunc (.func 62) #[] #[.pointer (some ⟨xa, 0, none⟩), .pointer (some ⟨xl, 0, none⟩)]) w fun t88 =>
        callG Try.prog 56 #[t81, t78, t87, t88] w fun t89 w =>
        qG Try.prog (bq .neq 24 (.tmp 90) (.const (.int .i64 0)) t89 (.int .i64 0)) w fun t91 =>
        bV t91
        (R t89 w)
        (wal_Log_Add_s0 R gv (.pointer (some ⟨xl, 0, none⟩)) (.pointer (some ⟨xa, 0, none⟩)) w))
        (wal_Log_Add_s0 R gv (.pointer (some ⟨xl, 0, none⟩)) (.pointer (some ⟨xa, 0, none⟩)) w)) := by
    intro wT xa hxaw hxa hk hBT hxaB
    have hxlT := hk.get hxl hxB
    have hAT := hk.get hA haB
    have hAll := h.keep hk haB hLB
    have hdT := hd.keep hk hSB
    have hgT := hgv.keep hk hGB
    simp [-getElem?_pos, -Array.getElem?_eq_getElem, -List.length_flatten, List.getElem?_cons_zero, List.getElem?_cons_succ, hxlT, hAT]
    rw [quo_of (by omega) (by omega)]
    have hq : IntKind.i64.wrap ((g.used.length : Int) / 32) = ((g.used.length / 32 : Nat) : Int) := by rw [w64 (by omega) (by omega)]; simp
    rw [hq]
    refine Len_spec hBT ?_
    simp [-getElem?_pos, -Array.getElem?_eq_getElem, -List.length_flatten, List.getElem?_cons_zero, List.getElem?_cons_succ, hxlT, hxa]
    have hxaS : xa ∉ S := fun hm => by have := hlive xa (by simp [hm]); omega
    have hxaL : xa ∉ SL := fun hm => by have := hlive xa (by simp [hm]); omega
    have hsT := hk.size
    have hkT' : Kp (a :: (SL ++ S ++ SB)) w wT := hk.mono fun x hx _ => by simp [hx]
    have hlen : (g.used ++ r).length = g.used.length + r.length := by simp
    refine ⟨fun hp => ?_, fun h0 => ?_⟩
    · have hr1 : IntKind.i64.wrap (IntKind.i64.wrap ((g.used.length : Int) + (r.length : Int) + 32) - 1) = ((g.used.length + r.length + 31 : Nat) : Int) := by
        rw [w64 (x := (g.used.length : Int) + (r.length : Int) + 32) (by omega) (by omega), w64 (by omega) (by omega)]; omega
      have hq2 : IntKind.i64.wrap (((g.used.length + r.length + 31 : Nat) : Int) / 32) = (((g.used.length + r.length + 31) / 32 : Nat) : Int) := by rw [w64 (by omega) (by omega)]; omega
      have hq3 : (g.used.length : Int) / 32 = ((g.used.length / 32 : Nat) : Int) := by omega
      rw [hr1, quo_of (by omega) (by omega), hq2, mk_func, hq3]
      refine add_sectors hAll hdT hxa hxlT (first := g.used.length / 32) (last := (g.used.length + r.length + 31) / 32) hlo (by rw [hlen]; omega) (by omega) (by rw [hlen]; omega) hlo2 (by omega) haS hxaS hxlS hLS fun w' S' hd' hk' hS' => ?_
      have hS'w : ∀ x ∈ S', x ∈ S ∨ w.heap.size ≤ x := fun x hx => by
        rcases hS' x hx with h | h
        · exact .inl h
        · exact .inr (by omega)
      have hk'' : Kp (a :: (SL ++ S ++ SB)) w w' := hkT'.trans hk' fun x hx _ => by simp [hx]
      have hL' := hAll.keep hk' haS hLS
      have haS' : a ∉ S' := fun hm => by
        rcases hS'w a hm with h | h
        · exact haS h
        · omega
      have hLS' : ∀ x ∈ SL, x ∉ S' := fun x hx hm => by
        rcases hS'w x hm with h | h
        · exact hLS x hx h
        · have := hlive x (by simp [hx]); omega
      rw [hlen] at hdone
      rw [if_pos hp] at hdone
      simp [-getElem?_pos, -Array.getElem?_eq_getElem, -List.length_flatten, List.getElem?_cons_zero, List.getElem?_cons_succ, ]
      refine ⟨fun he => ?_, fun he => ?_⟩
      · exact hdone w' g _ _ S' SL lv ⟨rfl, rfl, by rw [if_neg he]⟩ hL' hd' hS'w (fun x hx => .inl hx) hLS' haS' hk''
      · refine add_s0 hL' (hgT.keep hk' hGS) (hk'.get hxlT hxlS) (hk'.get hxa hxaS) (by omega) hxlL hxaL hne (by omega) fun w9 SL' lv' hL9 hk9 hS9 => ?_
        have hsz' := hk'.size
        have hnS : ∀ x ∈ a :: SL, x ∉ S' := fun x hx => by
          rcases List.mem_cons.1 hx with rfl | hx
          · exact haS'
          · exact hLS' x hx
        have hS'live : ∀ x ∈ S', x < w'.heap.size := fun x hx => by
          obtain ⟨bs, bn, lv, SL, T, Ts, Tn, rfl, hd⟩ := hd'
          exact hd.live x hx
        refine hdone w9 _ _ _ S' SL' lv' ⟨rfl, rfl, by rw [if_pos he]⟩ hL9 (hd'.keep hk9 fun x hx hm => hnS x hm hx) hS'w (fun x hx => ?_) (fun x hx hm => ?_) haS' (hk''.trans hk9 fun x hx _ => ?_) |> fun hR => by rw [he] at hR; exact hR
        · rcases hS9 x hx with h | h
          · exact .inl h
          · exact .inr (by omega)
        · rcases hS9 x hx with h | h
          · exact hLS' x h hm
          · have := hS'live x hm; omega
        · rcases List.mem_cons.1 hx with rfl | hx
          · simp
          · simp [hx]
    · rw [if_neg (by rw [h0]; simp)] at hdone
      refine add_s0 hAll hgT hxlT hxa (by omega) hxlL hxaL hne (by omega) fun w9 SL' lv' hL9 hk9 hS9 => ?_
      refine hdone w9 _ _ _ S SL' lv' ⟨rfl, rfl, by rw [if_pos rfl]⟩ hL9 (hdT.keep hk9 fun x hx hm => ?_) (fun x hx => .inl hx) (fun x hx => ?_) (fun x hx hm => ?_) haS (hkT'.trans hk9 fun x hx _ => ?_)
      · rcases List.mem_cons.1 hm with rfl | hm
        · exact haS hx
        · exact hLS x hm hx
      · rcases hS9 x hx with h | h
        · exact .inl h
        · exact .inr (by omega)
      · rcases hS9 x hx with h | h
        · exact hLS x h hm
        · have := hlive x (by simp [hm]); omega
      · rcases List.mem_cons.1 hx with rfl | hx
        · simp
        · simp [hx]
  have hxlx : ∀ K : Value → Prop, ld1 (.pointer (some ⟨xl, 0, none⟩)) w.drew K = K (.pointer (some ⟨a, 0, none⟩)) := by intro K; simp [hxl]
  simp [-getElem?_pos, -Array.getElem?_eq_getElem, -List.length_flatten, List.getElem?_cons_zero, List.getElem?_cons_succ, hxl, hA]
  refine ⟨?_, ?_⟩
  · refine String_spec (hB.done.keep (Kp.refl [] w).drew (by simp)) (by omega) fun w1 hB1 hk1 => ?_
    have hk1' : Kp SB w w1 := (Kp.refl _ w).drew.trans' hk1
    have hA1 := hk1'.get hA haB
    have hxl1 := hk1'.get hxl hxB
    have ha1 := live_of hA1
    have hxlv1 := live_of hxl1
    rw [bq_sadd hall]
    have hst : ∀ w', stb Try.prog (bq .add 9 (.tmp 70) (.tmp 71) (.string (str g.used)) (.string (str r))) (.string (str g.used ++ str r)) w' := fun w' => by rw [stb_of (run_sadd hall)]
    have hsz := hk1'.size
    simp [-getElem?_pos, -Array.getElem?_eq_getElem, -List.length_flatten, List.getElem?_cons_zero, List.getElem?_cons_succ, hA1, hxl1, heap_old, ha1, hxlv1, heap_new, zc9', -str_append]
    refine ⟨by simpa using hst _, ?_⟩
    have hkn : Kp [] w1 (w1.alloc (.cells #[.string (str (g.used ++ r))] 9)) := (Kp.refl [] w1).alloc _
    have ht := tail _ w1.heap.size (by omega) (heap_new (w := w1) (o := .cells #[.string (str (g.used ++ r))] 9)) (hk1'.trans hkn (by simp)) (hB1.keep hkn (by simp)) (fun hm => by have := hB.live _ hm; omega)
    simpa [-getElem?_pos, -Array.getElem?_eq_getElem, -List.length_flatten, List.getElem?_cons_zero, List.getElem?_cons_succ, hA1, hxl1, heap_old, ha1, hxlv1, heap_new, zc9'] using ht
  · simp [-getElem?_pos, -Array.getElem?_eq_getElem, -List.length_flatten, List.getElem?_cons_zero, List.getElem?_cons_succ, zc9', heap_old, (show Live w.drew a from ha), (show Live w.drew xl from hxlw), hA, hxl]
    obtain ⟨w1, hw1⟩ : ∃ w1, w1 = (w.alloc (.cells #[.string (str [])] 9)) := ⟨_, rfl⟩
    have hk1 : Kp [] w w1 := by rw [hw1]; exact (Kp.refl [] w).alloc _
    have hX1 : w1.heap[w.heap.size]? = some (.cells #[.string (str [])] 9) := by rw [hw1]; exact heap_new
    have hA1 := hk1.get hA (by simp)
    have hxl1 := hk1.get hxl (by simp)
    rw [← hw1]
    have hXB : w.heap.size ∉ SB := fun hm => by have := hB.live _ hm; omega
    simp [-getElem?_pos, -Array.getElem?_eq_getElem, -List.length_flatten, List.getElem?_cons_zero, List.getElem?_cons_succ, hA1, hxl1]
    refine String_spec ((hB.done.keep hk1 (by simp)).keep (Kp.refl [] w1).drew (by simp)) (by omega) fun w2 hB2 hk2 => ?_
    have hk2' : Kp SB w w2 := (hk1.mono (by simp)).trans ((Kp.refl _ w1).drew.trans' hk2) fun x hx _ => hx
    have hk12 : Kp SB w1 w2 := (Kp.refl _ w1).drew.trans' hk2
    have hA2 := hk2'.get hA haB
    have hxl2 := hk2'.get hxl hxB
    have hX2 := hk12.get hX1 hXB
    have lX2 := live_of hX2
    have hneX : ¬ w.heap.size = xl := by omega
    have hneA : ¬ w.heap.size = a := by omega
    rw [bq_sadd hall]
    have hkX : Kp [w.heap.size] w2 (setBlk w2 w.heap.size (.cells #[.string (str (g.used ++ r))] 9)) := (Kp.refl _ w2).setBlk (.inl (by simp)) _
    have ht := tail (setBlk w2 w.heap.size (.cells #[.string (str (g.used ++ r))] 9)) w.heap.size (Nat.le_refl _) (heap_self lX2) (hk2'.trans hkX fun x hx hlt => by simp at hx; omega) (hB2.keep hkX fun x hx => by simp; intro hh; exact hXB (hh ▸ hx)) hXB
    simpa [-getElem?_pos, -Array.getElem?_eq_getElem, -List.length_flatten, List.getElem?_cons_zero, List.getElem?_cons_succ, hA2, hxl2, hX2, lX2, heap_self, heap_ne, hneX, hneA] using ht
end Go.Proofs

/- Layer 4: Add's contract. -/
set_option linter.unusedVariables false
set_option linter.unusedSimpArgs false
namespace Go.Proofs
open Go Go.Q
theorem Add_spec {w : World} {a b : Nat} {g : LG} {SL S SG : List Nat} {lv gv : Value} {group : List (List UInt8)} {d : DK} {lo hi : Nat}
    (h : LogIs w a b g SL lv) (hd : DiskAt w b d S) (hgv : ArgAt w gv 1 (group.map strV) SG)
    (haS : a ∉ S) (hLS : ∀ x ∈ SL, x ∉ S) (hGS : ∀ x ∈ SG, x ∉ S) (hlive : ∀ x ∈ SL ++ S ++ SG, x < w.heap.size)
    (hgl : g.l.length + group.length < 2 ^ 39) (hgs : ∀ s ∈ group, s.length < 2 ^ 62) (hlo : g.lo = (lo : Int)) (hhi : g.hi = (hi : Int)) (hlh : lo ≤ hi) (hhi2 : hi ≤ 4096) (hroom : (g.used.length : Int) ≤ 32 * (hi - lo)) (hdl : d.l.length < 2 ^ 39) {K : Value → World → Prop}
    (hK : ∀ w' g' d' e S' SL' lv', (g', d', e) = addG g d group → LogIs w' a b g' SL' lv' → DiskAt w' b d' S' → (∀ x ∈ S', x ∈ S ∨ w.heap.size ≤ x) → (∀ x ∈ SL', x ∈ SL ∨ w.heap.size ≤ x) → (∀ x ∈ SL', x ∉ S') → a ∉ S' →
      Kp (a :: (SL ++ S)) w w' → K (.int .i64 e) w') : callG Try.prog 36 #[.pointer (some ⟨a, 0, none⟩), gv] w K := by
  refine wal_Log_Add_call ?_
  simp only [wal_Log_Add, wal_Log_Add_s5]
  rw [newG_k]
  obtain ⟨n, hn⟩ : ∃ n, n = w.heap.size := ⟨_, rfl⟩
  obtain ⟨w1, hw1⟩ : ∃ w1, w1 = w.alloc (.cells (Value.cells (.pointer (some ⟨a, 0, none⟩))) 64) := ⟨_, rfl⟩
  have hk1 : Kp [] w w1 := by rw [hw1]; exact (Kp.refl [] w).alloc _
  have hX1 : w1.heap[n]? = some (.cells #[.pointer (some ⟨a, 0, none⟩)] 64) := by rw [hw1, hn]; exact heap_new
  have hs1 : w1.heap.size = n + 1 := by rw [hw1, hn]; simp
  rw [← hn, ← hw1]
  have h1 := h.keep hk1 (by simp) (by simp)
  have hA1 := h1.1
  simp only [ld1_p, rd1_mk, hX1]
  have hget : (#[Value.pointer (some ⟨a, 0, none⟩)] : Array Value)[0]? = some (.pointer (some ⟨a, 0, none⟩)) := rfl
  simp only [hget]
  refine given_spec h1 ?_
  obtain ⟨w2, hw2⟩ : ∃ w2, w2 = w1.alloc (.cells #[.pointer none, .slice none 0 0] 107) := ⟨_, rfl⟩
  have hk2 : Kp [] w1 w2 := by rw [hw2]; exact (Kp.refl [] w1).alloc _
  have hB2 : Bld w2 (n + 1) [] [n + 1] := by rw [hw2, ← hs1]; exact bld_new
  have hs2 : w2.heap.size = n + 2 := by rw [hw2]; simp [hs1]
  have hX2 := hk2.get hX1 (by simp)
  have h2 := h1.keep hk2 (by simp) (by simp)
  have hA2 := h2.1
  simp [-getElem?_pos, -Array.getElem?_eq_getElem, -List.length_flatten, List.getElem?_cons_zero, List.getElem?_cons_succ, zc107]
  rw [← hw2, hs1]
  have e1 : IntKind.i64.wrap (g.hi - g.lo) = g.hi - g.lo := w64 (by omega) (by omega)
  have e2 : IntKind.i64.wrap (32 * (g.hi - g.lo)) = 32 * (g.hi - g.lo) := w64 (by omega) (by omega)
  have e3 : IntKind.i64.wrap (32 * (g.hi - g.lo) - (g.used.length : Int)) = 32 * (g.hi - g.lo) - (g.used.length : Int) := w64 (by omega) (by omega)
  simp [-getElem?_pos, -Array.getElem?_eq_getElem, -List.length_flatten, List.getElem?_cons_zero, List.getElem?_cons_succ, hX2, hA2, e1, e2, e3]
  have hr : 32 * (g.hi - g.lo) - (g.used.length : Int) = roomOf g := rfl
  rw [hr]
  have hroom0 : 0 ≤ roomOf g ∧ roomOf g < 2 ^ 30 := by unfold roomOf; omega
  have hk3 : Kp [] w w2.drew := (hk1.trans' hk2).drew
  have hk2d : Kp [] w2 w2.drew := (Kp.refl _ _).drew
  have hlv : ∀ x, x ∈ SL ++ S ++ SG → x < n := fun x hx => by have := hlive x hx; omega
  have han : a < n := by have := lt_of_blk h.1; omega
  have hgv3 := hgv.keep hk3 (by simp)
  have hd3 := hd.keep hk3 (by simp)
  have h3 := h2.keep hk2d (by simp) (by simp)
  have hX3 := hk2d.get hX2 (by simp)
  have hB3 := hB2.keep hk2d (by simp)
  have hs3 : w2.drew.heap.size = n + 2 := hs2
  have hno : ∀ x, x ∈ SL ++ S ++ SG → x ∉ [n + 1] := fun x hx hm => by have := hlv x hx; simp at hm; omega
  refine add_loop h3 hgv3 hX3 hB3 (by simp; omega) (fun x hx => hno x (by simp [hx])) (fun x hx => hno x (by simp [hx])) (by simp) (by omega) hgs hroom0 ?_ ?_
  · intro w' e hk he hne
    have hk' : Kp [] w w' := hk3.trans hk fun x hx hlt => by simp at hx; omega
    refine hK w' g d e S SL lv ?_ (h.keep hk' (by simp) (by simp)) (hd.keep hk' (by simp)) (fun x hx => .inl hx) (fun x hx => .inl hx) hLS haS (hk'.mono (by simp))
    unfold addG
    simp only [he]
    rw [if_pos hne]
  · intro w' SB' hk he hB' hSB'
    have hk' : Kp [] w w' := hk3.trans hk fun x hx hlt => by simp at hx; omega
    have hSBn : ∀ x ∈ SB', n + 1 ≤ x := fun x hx => by
      rcases hSB' x hx with h | h
      · simp at h; omega
      · omega
    have hnoB : ∀ x, x ∈ SL ++ S ++ SG → x ∉ SB' := fun x hx hm => by have := hlv x hx; have := hSBn x hm; omega
    have hsz := hk'.size
    have hlen := addRun_len g.turn (roomOf g) hroom0.1 group [] false (by simpa using hroom0.1)
    have hrm : (g.used.length : Int) + roomOf g = 32 * (g.hi - g.lo) := by unfold roomOf; omega
    refine add_s1 (h.keep hk' (by simp) (by simp)) (hd.keep hk' (by simp)) (hgv.keep hk' (by simp)) (hk.get hX3 (by simp)) hB' (fun hm => by have := hSBn _ hm; omega) (fun x hx => hnoB x (by simp [hx])) (fun x hx => hnoB x (by simp [hx])) (fun hm => by have := hSBn _ hm; omega)
      (fun x hx => hnoB x (by simp [hx])) haS (fun hm => by have := hlv n (by simp [hm]); omega) hLS hGS (fun hm => by have := hlv n (by simp [hm]); omega) (by omega) hgl hlo (by omega) (by omega) hdl (fun x hx => by have := hlv x hx; omega) ?_ ?_
    · intro hf
      refine hK w' g d 2 S SL lv ?_ (h.keep hk' (by simp) (by simp)) (hd.keep hk' (by simp)) (fun x hx => .inl hx) (fun x hx => .inl hx) hLS haS (hk'.mono (by simp))
      unfold addG
      simp only [he, hf]
      rfl
    · intro hf w9 g' d' e S' SL' lv' hp hL9 hd9 hS9 hSL9 hLS9 haS9 hk9
      obtain ⟨p1, p2, p3⟩ := hp
      refine hK w9 g' d' e S' SL' lv' ?_ hL9 hd9 (fun x hx => ?_) (fun x hx => ?_) hLS9 haS9 ((hk'.mono (S' := a :: (SL ++ S)) (by simp)).trans hk9 fun x hx hlt => ?_)
      · have hlt : g.lo.toNat = lo := by omega
        obtain ⟨rr, hrr⟩ : ∃ rr, rr = (addRun g.turn (roomOf g) group [] false).2.1 := ⟨_, rfl⟩
        rw [← hrr] at p1 p2 p3
        obtain ⟨P, hP⟩ : ∃ P, P = (if 0 < rr.length then putN lo (g.used ++ rr) d (g.used.length / 32) (((g.used ++ rr).length + 31) / 32 - g.used.length / 32) else (d, 0)) := ⟨_, rfl⟩
        rw [← hP] at p1 p2 p3
        have hg : addG g d group = if P.2 = 0 then ({ g with l := g.l ++ group, used := g.used ++ rr }, P.1, 0) else (g, P.1, P.2) := by
          unfold addG
          simp only [he, hf, hlt, ← hrr, ← hP]
          simp
        rw [hg, p1, p2, p3]
        by_cases h0 : P.2 = 0
        · rw [if_pos h0, if_pos h0, h0]
        · rw [if_neg h0, if_neg h0]
      · rcases hS9 x hx with h | h
        · exact .inl h
        · exact .inr (by omega)
      · rcases hSL9 x hx with h | h
        · exact .inl h
        · exact .inr (by omega)
      · rcases List.mem_cons.1 hx with rfl | hx
        · simp
        · rcases List.mem_append.1 hx with hx | hx
          · simp at hx; rcases hx with hx | hx <;> simp [hx]
          · have := hSBn x hx; omega
end Go.Proofs

set_option linter.unusedVariables false
set_option linter.unusedSimpArgs false
namespace Go.Proofs
open Go Go.Q
set_option maxRecDepth 100000
/-! quayside/quaysidelaw03.DiskFuses -/
def law03_DiskFuses_s0 (R : Value → World → Prop) (x5 : Value) (w : World) : Prop :=
  callG Try.prog 17 #[x5, (.int .i64 0)] w fun t75 w =>
  qG Try.prog (Instr.extract t75 0) w fun t76 =>
  qG Try.prog (Instr.extract t75 1) w fun t77 =>
  qG Try.prog (bq .eql 24 (.tmp 78) (.const (.int .i64 30)) t77 (.int .i64 30)) w fun t79 =>
  callG Try.prog 26 #[x5] w fun t81 w =>
  qG Try.prog (bq .eql 4 (.tmp 79) (.tmp 81) t79 t81) w fun t82 =>
  bV t82
  (callG Try.prog 16 #[x5, (.slice none 0 0)] w fun t85 w =>
  qG Try.prog (bq .eql 24 (.tmp 85) (.const (.int .i64 0)) t85 (.int .i64 0)) w fun t86 =>
  bV t86
  (callG Try.prog 26 #[x5] w fun t90 w =>
  qG Try.prog (Op.unary .not t90) w fun t91 =>
  bV t91
  (callG Try.prog 18 #[] w fun t94 w =>
  R t94 w)
  (R (.bool false) w))
  (R (.bool false) w))
  (R (.bool false) w)

theorem law03_DiskFuses_s0_eq (R : Value → World → Prop) : ∀ e w, lift Try.prog 96 (sub (bodyOf Try.f5) [1, 1, 1, 1, 1]) (finK Try.prog Try.f5.results.toList R) e w = law03_DiskFuses_s0 R (e 5) w := fun e w => by kernel_rfl

def law03_DiskFuses_s1 (R : Value → World → Prop) (N1 : List Value → World → Prop) (x0 x5 x7 x8 : Value) (w : World) : Prop :=
  qG Try.prog (bq .add 3 (.tmp 42) (.const (.int .i64 1)) x8 (.int .i64 1)) w fun t43 =>
  N1 [x0, x5, x7, t43] w

theorem law03_DiskFuses_s1_eq (R : Value → World → Prop) (N1 : List Value → World → Prop) : ∀ e w, lift Try.prog 96 (sub (bodyOf Try.f5) [1, 1, 1, 1, 0, 1, 0, 0, 1, 1]) (seqK (fun e w => N1 [e 0, e 5, e 7, e 8] w) (blockK 0 (seqK (fun e w => law03_DiskFuses_s0 R (e 5) w) (finK Try.prog Try.f5.results.toList R)))) e w = law03_DiskFuses_s1 R N1 (e 0) (e 5) (e 7) (e 8) w := fun e w => by kernel_rfl

def law03_DiskFuses_s2 (R : Value → World → Prop) (N1 : List Value → World → Prop) (x0 x5 x7 x8 x9 x10 : Value) (w : World) : Prop :=
  qG Try.prog (bq .neq 24 (.tmp 59) (.tmp 60) x10 x9) w fun t61 =>
  bV t61
  (R (.bool false) w)
  (callG Try.prog 26 #[x5] w fun t64 w =>
  qG Try.prog (bq .eql 24 (.tmp 65) (.const (.int .i64 30)) x9 (.int .i64 30)) w fun t66 =>
  qG Try.prog (bq .neq 4 (.tmp 64) (.tmp 66) t64 t66) w fun t67 =>
  bV t67
  (R (.bool false) w)
  (qG Try.prog (bq .gtr 3 (.tmp 69) (.const (.int .i64 0)) x7 (.int .i64 0)) w fun t70 =>
  bV t70
  (qG Try.prog (bq .sub 3 (.tmp 71) (.const (.int .i64 1)) x7 (.int .i64 1)) w fun t72 =>
  law03_DiskFuses_s1 R N1 x0 x5 t72 x8 w)
  (law03_DiskFuses_s1 R N1 x0 x5 x7 x8 w)))

theorem law03_DiskFuses_s2_eq (R : Value → World → Prop) (N1 : List Value → World → Prop) : ∀ e w, lift Try.prog 96 (sub (bodyOf Try.f5) [1, 1, 1, 1, 0, 1, 0, 0, 1, 0, 0, 1, 1, 1, 1]) (blockK 1 (seqK (fun e w => law03_DiskFuses_s1 R N1 (e 0) (e 5) (e 7) (e 8) w) (seqK (fun e w => N1 [e 0, e 5, e 7, e 8] w) (blockK 0 (seqK (fun e w => law03_DiskFuses_s0 R (e 5) w) (finK Try.prog Try.f5.results.toList R)))))) e w = law03_DiskFuses_s2 R N1 (e 0) (e 5) (e 7) (e 8) (e 9) (e 10) w := fun e w => by kernel_rfl

def law03_DiskFuses_s3 (R : Value → World → Prop) (N1 : List Value → World → Prop) (x0 x5 x7 x8 x9 : Value) (w : World) : Prop :=
  qG Try.prog (bq .rem 3 (.tmp 46) (.const (.int .i64 6)) x8 (.int .i64 6)) w fun t47 =>
  qG Try.prog (bq .eql 3 (.tmp 47) (.const (.int .i64 5)) t47 (.int .i64 5)) w fun t48 =>
  bV t48
  (callG Try.prog 15 #[x5] w fun t50 w =>
  law03_DiskFuses_s2 R N1 x0 x5 x7 x8 x9 t50 w)
  (ia 1 x0 x8 fun t54 =>
  ld1 t54 (World.drew w) fun t55 =>
  qG Try.prog (bq .and 3 (.tmp 55) (.const (.int .i64 7)) t55 (.int .i64 7)) (World.drew w) fun t56 =>
  callG Try.prog 14 #[(.int .u8 120)] (World.drew w) fun t57 w =>
  stb Try.prog (bq .and 3 (.tmp 55) (.const (.int .i64 7)) t55 (.int .i64 7)) t56 w ∧
  ld1 t54 w (fun u => u = t55) ∧
  callG Try.prog 13 #[x5, t56, t57] w fun t58 w =>
  law03_DiskFuses_s2 R N1 x0 x5 x7 x8 x9 t58 w)

theorem law03_DiskFuses_s3_eq (R : Value → World → Prop) (N1 : List Value → World → Prop) : ∀ e w, lift Try.prog 96 (sub (bodyOf Try.f5) [1, 1, 1, 1, 0, 1, 0, 0, 1, 0, 0, 1, 1]) (blockK 1 (seqK (fun e w => law03_DiskFuses_s1 R N1 (e 0) (e 5) (e 7) (e 8) w) (seqK (fun e w => N1 [e 0, e 5, e 7, e 8] w) (blockK 0 (seqK (fun e w => law03_DiskFuses_s0 R (e 5) w) (finK Try.prog Try.f5.results.toList R)))))) e w = law03_DiskFuses_s3 R N1 (e 0) (e 5) (e 7) (e 8) (e 9) w :=
  segs_eq (l := [(sub (bodyOf Try.f5) [1, 1, 1, 1, 0, 1, 0, 0, 1, 0, 0, 1, 1, 0]), (sub (bodyOf Try.f5) [1, 1, 1, 1, 0, 1, 0, 0, 1, 0, 0, 1, 1, 1, 0])]) (y := (sub (bodyOf Try.f5) [1, 1, 1, 1, 0, 1, 0, 0, 1, 0, 0, 1, 1, 1, 1])) (Y := (fun e w => law03_DiskFuses_s2 R N1 (e 0) (e 5) (e 7) (e 8) (e 9) (e 10) w)) (law03_DiskFuses_s2_eq R N1) (fun e w => by kernel_rfl)

def law03_DiskFuses_s4 (R : Value → World → Prop) (N1 : List Value → World → Prop) (x0 x5 x7 x8 : Value) (w : World) : Prop :=
  qG Try.prog (bq .eql 3 (.tmp 44) (.const (.int .i64 0)) x7 (.int .i64 0)) w fun t45 =>
  bV t45
  (law03_DiskFuses_s3 R N1 x0 x5 x7 x8 (.int .i64 30) w)
  (law03_DiskFuses_s3 R N1 x0 x5 x7 x8 (.int .i64 0) w)

theorem law03_DiskFuses_s4_eq (R : Value → World → Prop) (N1 : List Value → World → Prop) : ∀ e w, lift Try.prog 96 (sub (bodyOf Try.f5) [1, 1, 1, 1, 0, 1, 0, 0, 1, 0, 0]) (blockK 1 (seqK (fun e w => law03_DiskFuses_s1 R N1 (e 0) (e 5) (e 7) (e 8) w) (seqK (fun e w => N1 [e 0, e 5, e 7, e 8] w) (blockK 0 (seqK (fun e w => law03_DiskFuses_s0 R (e 5) w) (finK Try.prog Try.f5.results.toList R)))))) e w = law03_DiskFuses_s4 R N1 (e 0) (e 5) (e 7) (e 8) w :=
  segs_eq (l := [(sub (bodyOf Try.f5) [1, 1, 1, 1, 0, 1, 0, 0, 1, 0, 0, 0]), (sub (bodyOf Try.f5) [1, 1, 1, 1, 0, 1, 0, 0, 1, 0, 0, 1, 0])]) (y := (sub (bodyOf Try.f5) [1, 1, 1, 1, 0, 1, 0, 0, 1, 0, 0, 1, 1])) (Y := (fun e w => law03_DiskFuses_s3 R N1 (e 0) (e 5) (e 7) (e 8) (e 9) w)) (law03_DiskFuses_s3_eq R N1) (fun e w => by kernel_rfl)

def law03_DiskFuses_s5 (R : Value → World → Prop) (N1 : List Value → World → Prop) (x0 x5 x7 x8 : Value) (w : World) : Prop :=
  lenL x0 fun t36 =>
  qG Try.prog (bq .lss 3 (.tmp 34) (.tmp 36) x8 t36) w fun t37 =>
  bV t37
  (qG Try.prog (bq .lss 3 (.tmp 39) (.const (.int .i64 30)) x8 (.int .i64 30)) w fun t40 =>
  bV t40
  (law03_DiskFuses_s4 R N1 x0 x5 x7 x8 w)
  (law03_DiskFuses_s0 R x5 w))
  (law03_DiskFuses_s0 R x5 w)

theorem law03_DiskFuses_s5_eq (R : Value → World → Prop) (N1 : List Value → World → Prop) : ∀ e w, lift Try.prog 96 (sub (bodyOf Try.f5) [1, 1, 1, 1, 0, 1, 0, 0]) (seqK (fun e w => N1 [e 0, e 5, e 7, e 8] w) (blockK 0 (seqK (fun e w => law03_DiskFuses_s0 R (e 5) w) (finK Try.prog Try.f5.results.toList R)))) e w = law03_DiskFuses_s5 R N1 (e 0) (e 5) (e 7) (e 8) w :=
  segs_eq (l := [(sub (bodyOf Try.f5) [1, 1, 1, 1, 0, 1, 0, 0, 0])]) (y := (sub (bodyOf Try.f5) [1, 1, 1, 1, 0, 1, 0, 0, 1])) (Y := (fun e w => law03_DiskFuses_s4 R N1 (e 0) (e 5) (e 7) (e 8) w)) (seq_seg (x := (sub (bodyOf Try.f5) [1, 1, 1, 1, 0, 1, 0, 0, 1, 0])) (y := (sub (bodyOf Try.f5) [1, 1, 1, 1, 0, 1, 0, 0, 1, 1])) (law03_DiskFuses_s1_eq R N1) (law03_DiskFuses_s4_eq R N1)) (fun e w => by kernel_rfl)

def law03_DiskFuses_L6F (R : Value → World → Prop) (N1 : List Value → World → Prop) (xs : List Value) (w : World) : Prop :=
  match xs with
  | [x0, x5, x7, x8] => law03_DiskFuses_s5 R N1 x0 x5 x7 x8 w
  | _ => False

def law03_DiskFuses_L6 (R : Value → World → Prop) (x0 x5 x7 x8 : Value) (w : World) : Prop :=
  ∃ m, loopV (law03_DiskFuses_L6F R) m [x0, x5, x7, x8] w

theorem law03_DiskFuses_L6_eq (R : Value → World → Prop) : ∀ e w, lift Try.prog 96 (sub (bodyOf Try.f5) [1, 1, 1, 1, 0, 1, 0]) (blockK 0 (seqK (fun e w => law03_DiskFuses_s0 R (e 5) w) (finK Try.prog Try.f5.results.toList R))) e w = law03_DiskFuses_L6 R (e 0) (e 5) (e 7) (e 8) w := loop_seg (F := law03_DiskFuses_L6F R) (sel := fun e => [e 0, e 5, e 7, e 8]) fun N1 => (law03_DiskFuses_s5_eq R N1)

def law03_DiskFuses_s7 (R : Value → World → Prop) (x0 x5 x7 : Value) (w : World) : Prop :=
  law03_DiskFuses_L6 R x0 x5 x7 (.int .i64 0) w

theorem law03_DiskFuses_s7_eq (R : Value → World → Prop) : ∀ e w, lift Try.prog 96 (sub (bodyOf Try.f5) [1, 1, 1, 1, 0]) (seqK (fun e w => law03_DiskFuses_s0 R (e 5) w) (finK Try.prog Try.f5.results.toList R)) e w = law03_DiskFuses_s7 R (e 0) (e 5) (e 7) w :=
  segs_eq (l := [(sub (bodyOf Try.f5) [1, 1, 1, 1, 0, 0])]) (y := (sub (bodyOf Try.f5) [1, 1, 1, 1, 0, 1])) (Y := (fun e w => law03_DiskFuses_L6 R (e 0) (e 5) (e 7) (e 8) w)) (law03_DiskFuses_L6_eq R) (fun e w => by kernel_rfl)

def law03_DiskFuses_s8 (R : Value → World → Prop) (x0 x1 x5 : Value) (w : World) : Prop :=
  qG Try.prog (bq .and 3 (.tmp 31) (.const (.int .i64 255)) x1 (.int .i64 255)) w fun t32 =>
  qG Try.prog (bq .rem 3 (.tmp 32) (.const (.int .i64 40)) t32 (.int .i64 40)) w fun t33 =>
  law03_DiskFuses_s7 R x0 x5 t33 w

theorem law03_DiskFuses_s8_eq (R : Value → World → Prop) : ∀ e w, lift Try.prog 96 (sub (bodyOf Try.f5) [1, 1, 1]) (finK Try.prog Try.f5.results.toList R) e w = law03_DiskFuses_s8 R (e 0) (e 1) (e 5) w :=
  segs_eq (l := [(sub (bodyOf Try.f5) [1, 1, 1, 0])]) (y := (sub (bodyOf Try.f5) [1, 1, 1, 1])) (Y := (fun e w => law03_DiskFuses_s7 R (e 0) (e 5) (e 7) w)) (seq_seg (x := (sub (bodyOf Try.f5) [1, 1, 1, 1, 0])) (y := (sub (bodyOf Try.f5) [1, 1, 1, 1, 1])) (law03_DiskFuses_s0_eq R) (law03_DiskFuses_s7_eq R)) (fun e w => by kernel_rfl)

def law03_DiskFuses_s9 (R : Value → World → Prop) (x0 x1 : Value) (w : World) : Prop :=
  callG Try.prog 12 #[(.int .i64 8)] w fun t14 w =>
  qG Try.prog (Instr.extract t14 0) w fun t15 =>
  qG Try.prog (Instr.extract t14 1) w fun t16 =>
  qG Try.prog (bq .neq 24 (.tmp 17) (.const (.int .i64 0)) t16 (.int .i64 0)) w fun t18 =>
  bV t18
  (R (.bool false) w)
  (qG Try.prog (bq .eql 23 (.tmp 20) (.const (.pointer none)) t15 (.pointer none)) w fun t21 =>
  bV t21
  (R (.bool false) w)
  (qG Try.prog (bq .and 3 (.tmp 25) (.const (.int .i64 255)) x1 (.int .i64 255)) w fun t26 =>
  qG Try.prog (bq .rem 3 (.tmp 26) (.const (.int .i64 40)) t26 (.int .i64 40)) w fun t27 =>
  callG Try.prog 23 #[t15, t27] w fun t28 w =>
  qG Try.prog (bq .neq 24 (.tmp 28) (.const (.int .i64 0)) t28 (.int .i64 0)) w fun t29 =>
  bV t29
  (R (.bool false) w)
  (law03_DiskFuses_s8 R x0 x1 t15 w)))

theorem law03_DiskFuses_s9_eq (R : Value → World → Prop) : ∀ e w, lift Try.prog 96 (bodyOf Try.f5) (finK Try.prog Try.f5.results.toList R) e w = law03_DiskFuses_s9 R (e 0) (e 1) w :=
  segs_eq (l := [(sub (bodyOf Try.f5) [0]), (sub (bodyOf Try.f5) [1, 0]), (sub (bodyOf Try.f5) [1, 1, 0])]) (y := (sub (bodyOf Try.f5) [1, 1, 1])) (Y := (fun e w => law03_DiskFuses_s8 R (e 0) (e 1) (e 5) w)) (law03_DiskFuses_s8_eq R) (fun e w => by kernel_rfl)

def law03_DiskFuses (R : Value → World → Prop) (x0 x1 : Value) (w : World) : Prop := law03_DiskFuses_s9 R x0 x1 w
theorem law03_DiskFuses_call {R : Value → World → Prop} {x0 x1 : Value} {w : World} (h : law03_DiskFuses R x0 x1 w) : callG Try.prog 5 #[x0, x1] w R :=
  calls_lift_eq Try.mixed Try.func5 (args := [x0, x1]) rfl rfl rfl rfl ((law03_DiskFuses_s9_eq R) (envOf [x0, x1]) w) (by kernel_rfl) h
/-! quayside/quaysidelaw03.DiskNobody -/
def law03_DiskNobody_s0 (R : Value → World → Prop) (w : World) : Prop :=
  callG Try.prog 18 #[] w fun t91 w =>
  R t91 w

theorem law03_DiskNobody_s0_eq (R : Value → World → Prop) : ∀ e w, lift Try.prog 92 (sub (bodyOf Try.f6) [1, 1, 1]) (finK Try.prog Try.f6.results.toList R) e w = law03_DiskNobody_s0 R w := fun e w => by kernel_rfl

def law03_DiskNobody_b1 (R : Value → World → Prop) (N1 : List Value → World → Prop) (x0 x1 x5 x6 : Value) (w : World) : Prop :=
  lenL x5 fun t14 =>
  qG Try.prog (bq .lss 3 (.tmp 12) (.tmp 14) x6 t14) w fun t15 =>
  bV t15
  (ia 1 x5 x6 fun t21 =>
  ld1 t21 w fun t22 =>
  callG Try.prog 17 #[t22, x0] w fun t24 w =>
  qG Try.prog (Instr.extract t24 0) w fun t25 =>
  qG Try.prog (Instr.extract t24 1) w fun t26 =>
  ia 1 x5 x6 fun t29 =>
  ld1 t29 w fun t30 =>
  callG Try.prog 28 #[t30] w fun t31 w =>
  qG Try.prog (bq .neq 3 (.tmp 31) (.const (.int .i64 0)) t31 (.int .i64 0)) w fun t32 =>
  bV t32
  (R (.bool false) w)
  (ia 1 x5 x6 fun t36 =>
  ld1 t36 w fun t37 =>
  callG Try.prog 13 #[t37, x0, x1] w fun t40 w =>
  qG Try.prog (bq .neq 24 (.tmp 40) (.const (.int .i64 1)) t40 (.int .i64 1)) w fun t41 =>
  bV t41
  (R (.bool false) w)
  (qG Try.prog (bq .neq 9 (.tmp 44) (.const (.string ⟨#[]⟩)) t25 (.string ⟨#[]⟩)) w fun t45 =>
  bV t45
  (R (.bool false) w)
  (qG Try.prog (bq .neq 24 (.tmp 48) (.const (.int .i64 1)) t26 (.int .i64 1)) w fun t49 =>
  bV t49
  (R (.bool false) w)
  (ia 1 x5 x6 fun t54 =>
  ld1 t54 w fun t55 =>
  callG Try.prog 15 #[t55] w fun t56 w =>
  qG Try.prog (bq .neq 24 (.tmp 56) (.const (.int .i64 1)) t56 (.int .i64 1)) w fun t57 =>
  bV t57
  (R (.bool false) w)
  (ia 1 x5 x6 fun t62 =>
  ld1 t62 w fun t63 =>
  callG Try.prog 27 #[t63] w fun t64 w =>
  qG Try.prog (bq .neq 3 (.tmp 64) (.const (.int .i64 0)) t64 (.int .i64 0)) w fun t65 =>
  bV t65
  (R (.bool false) w)
  (ia 1 x5 x6 fun t70 =>
  ld1 t70 w fun t71 =>
  callG Try.prog 23 #[t71, x0] w fun t73 w =>
  qG Try.prog (bq .neq 24 (.tmp 73) (.const (.int .i64 1)) t73 (.int .i64 1)) w fun t74 =>
  bV t74
  (R (.bool false) w)
  (ia 1 x5 x6 fun t79 =>
  ld1 t79 w fun t80 =>
  callG Try.prog 26 #[t80] w fun t81 w =>
  bV t81
  (R (.bool false) w)
  (ia 1 x5 x6 fun t86 =>
  ld1 t86 w fun t87 =>
  callG Try.prog 16 #[t87, (.slice none 0 0)] w fun t88 w =>
  qG Try.prog (bq .neq 24 (.tmp 88) (.const (.int .i64 1)) t88 (.int .i64 1)) w fun t89 =>
  bV t89
  (R (.bool false) w)
  (qG Try.prog (bq .add 3 (.tmp 16) (.const (.int .i64 1)) x6 (.int .i64 1)) w fun t17 =>
  N1 [x0, x1, x5, t17] w))))))))))
  (law03_DiskNobody_s0 R  w)

theorem law03_DiskNobody_b1_eq (R : Value → World → Prop) (N1 : List Value → World → Prop) : ∀ e w, lift Try.prog 92 (sub (bodyOf Try.f6) [1, 1, 0, 1, 0, 0]) (seqK (fun e w => N1 [e 0, e 1, e 5, e 6] w) (blockK 0 (seqK (fun e w => law03_DiskNobody_s0 R  w) (finK Try.prog Try.f6.results.toList R)))) e w = law03_DiskNobody_b1 R N1 (e 0) (e 1) (e 5) (e 6) w := fun e w => by kernel_rfl

def law03_DiskNobody_L2F (R : Value → World → Prop) (N1 : List Value → World → Prop) (xs : List Value) (w : World) : Prop :=
  match xs with
  | [x0, x1, x5, x6] => law03_DiskNobody_b1 R N1 x0 x1 x5 x6 w
  | _ => False

def law03_DiskNobody_L2 (R : Value → World → Prop) (x0 x1 x5 x6 : Value) (w : World) : Prop :=
  ∃ m, loopV (law03_DiskNobody_L2F R) m [x0, x1, x5, x6] w

theorem law03_DiskNobody_L2_eq (R : Value → World → Prop) : ∀ e w, lift Try.prog 92 (sub (bodyOf Try.f6) [1, 1, 0, 1, 0]) (blockK 0 (seqK (fun e w => law03_DiskNobody_s0 R  w) (finK Try.prog Try.f6.results.toList R))) e w = law03_DiskNobody_L2 R (e 0) (e 1) (e 5) (e 6) w := loop_seg (F := law03_DiskNobody_L2F R) (sel := fun e => [e 0, e 1, e 5, e 6]) fun N1 => (law03_DiskNobody_b1_eq R N1)

def law03_DiskNobody_s3 (R : Value → World → Prop) (x0 x1 x5 : Value) (w : World) : Prop :=
  law03_DiskNobody_L2 R x0 x1 x5 (.int .i64 0) w

theorem law03_DiskNobody_s3_eq (R : Value → World → Prop) : ∀ e w, lift Try.prog 92 (sub (bodyOf Try.f6) [1, 1, 0]) (seqK (fun e w => law03_DiskNobody_s0 R  w) (finK Try.prog Try.f6.results.toList R)) e w = law03_DiskNobody_s3 R (e 0) (e 1) (e 5) w :=
  segs_eq (l := [(sub (bodyOf Try.f6) [1, 1, 0, 0])]) (y := (sub (bodyOf Try.f6) [1, 1, 0, 1])) (Y := (fun e w => law03_DiskNobody_L2 R (e 0) (e 1) (e 5) (e 6) w)) (law03_DiskNobody_L2_eq R) (fun e w => by kernel_rfl)

def law03_DiskNobody_s4 (R : Value → World → Prop) (x0 x1 : Value) (w : World) : Prop :=
  bld [(0, 1), (1, 1), (2, 1), (3, 1), (4, 1)] (zc Try.prog 56) #[] fun t9 =>
  newG (Value.cells t9) 56 w fun t10 w =>
  bsl 23 1 2 (zc Try.prog 23) #[(0, (.pointer none)), (1, t10)] w fun t11 w =>
  law03_DiskNobody_s3 R x0 x1 t11 w

theorem law03_DiskNobody_s4_eq (R : Value → World → Prop) : ∀ e w, lift Try.prog 92 (bodyOf Try.f6) (finK Try.prog Try.f6.results.toList R) e w = law03_DiskNobody_s4 R (e 0) (e 1) w :=
  segs_eq (l := [(sub (bodyOf Try.f6) [0]), (sub (bodyOf Try.f6) [1, 0])]) (y := (sub (bodyOf Try.f6) [1, 1])) (Y := (fun e w => law03_DiskNobody_s3 R (e 0) (e 1) (e 5) w)) (seq_seg (x := (sub (bodyOf Try.f6) [1, 1, 0])) (y := (sub (bodyOf Try.f6) [1, 1, 1])) (law03_DiskNobody_s0_eq R) (law03_DiskNobody_s3_eq R)) (fun e w => by kernel_rfl)

def law03_DiskNobody (R : Value → World → Prop) (x0 x1 : Value) (w : World) : Prop := law03_DiskNobody_s4 R x0 x1 w
theorem law03_DiskNobody_call {R : Value → World → Prop} {x0 x1 : Value} {w : World} (h : law03_DiskNobody R x0 x1 w) : callG Try.prog 6 #[x0, x1] w R :=
  calls_lift_eq Try.mixed Try.func6 (args := [x0, x1]) rfl rfl rfl rfl ((law03_DiskNobody_s4_eq R) (envOf [x0, x1]) w) (by kernel_rfl) h
end Go.Proofs

/- DiskNobody: a disk that nobody made. -/
set_option linter.unusedVariables false
set_option linter.unusedSimpArgs false
namespace Go.Proofs
open Go Go.Q
theorem bsl_two {e : Nat} {z : Array Value} {v u : Value} (hv : one v = true) (hu : one u = true) {w : World} {k : Value → World → Prop} :
    bsl e 1 2 z #[(0, v), (1, u)] w k = k (.slice (some ⟨w.heap.size, 0, none⟩) 2 2) (w.alloc (.cells #[v, u] e)) := by
  have hc := cells_one hv
  have hd := cells_one hu
  obtain ⟨r, hr⟩ : ∃ r, r = rep z (2 * 1) := ⟨_, rfl⟩
  have hs : r.size = 2 := by rw [hr, rep_size]
  obtain ⟨l⟩ := r
  match l, hs with
  | [a, b], _ =>
    unfold bsl
    show (match Instr.fill (fun i => some (i * 1, 1)) (rep z (2 * 1)) [(0, v), (1, u)] with | some cs => k (Value.slice (some ⟨w.heap.size, 0, none⟩) 2 2) (w.alloc (Obj.cells cs e)) | none => False) = _
    rw [← hr]
    rw [fill_step (off := 0) (size := 1) rfl (by rw [hc]; rfl) (by simp), hc]
    rw [fill_step (off := 1) (size := 1) rfl (by rw [hd]; rfl) (by simp [splice]), hd]
    rfl
/-- nobody's disk: none, or one whose cells are zero -/
def Nob (w : World) (v : Value) : Prop := v = .pointer none ∨ ∃ b T fr, v = .pointer (some ⟨b, 0, none⟩) ∧ w.heap[b]? = some (.cells #[.slice none 0 0, .slice none 0 0, .slice none 0 0, .int .i64 0, .bool false] T fr)
section
variable {w : World} {v : Value} (h : Nob w v) {K : Value → World → Prop}
include h
theorem nob_Size (hK : K (.int .i64 0) w) : callG Try.prog 28 #[v] w K := by
  refine disk_Disk_Size_call ?_
  rcases h with rfl | ⟨b, T, fr, rfl, hb⟩
  · simpa [disk_Disk_Size, disk_Disk_Size_s0] using hK
  · simpa [disk_Disk_Size, disk_Disk_Size_s0, hb] using hK
theorem nob_has (n : Int) (hK : K (.bool false) w) : callG Try.prog 44 #[v, .int .i64 n] w K := by
  refine disk_Disk_has_call ?_
  simp only [disk_Disk_has, disk_Disk_has_s0, bq_geq, bV_b]
  refine ⟨fun hp => nob_Size h ?_, fun _ => hK⟩
  have : ¬ n < 0 := by simpa using hp
  simp [-getElem?_pos, -Array.getElem?_eq_getElem, -List.length_flatten, List.getElem?_cons_zero, List.getElem?_cons_succ, this]
  exact hK
theorem nob_Read (n : Int) (hK : K (.tuple #[.string ⟨#[]⟩, .int .i64 1]) w) : callG Try.prog 17 #[v, .int .i64 n] w K := by
  refine disk_Disk_Read_call ?_
  simp only [disk_Disk_Read, disk_Disk_Read_s0]
  refine nob_has h n ?_
  simp [-getElem?_pos, -Array.getElem?_eq_getElem, -List.length_flatten, List.getElem?_cons_zero, List.getElem?_cons_succ, ]
  exact hK
theorem nob_Write (n : Int) (s : ByteArray) (hK : K (.int .i64 1) w) : callG Try.prog 13 #[v, .int .i64 n, .string s] w K := by
  refine disk_Disk_Write_call ?_
  simp only [disk_Disk_Write, disk_Disk_Write_s1]
  refine nob_has h n ?_
  simp [-getElem?_pos, -Array.getElem?_eq_getElem, -List.length_flatten, List.getElem?_cons_zero, List.getElem?_cons_succ, ]
  exact hK
theorem nob_Flush (hK : K (.int .i64 1) w) : callG Try.prog 15 #[v] w K := by
  refine disk_Disk_Flush_call ?_
  simp only [disk_Disk_Flush, disk_Disk_Flush_s4]
  refine nob_Size h ?_
  simp [-getElem?_pos, -Array.getElem?_eq_getElem, -List.length_flatten, List.getElem?_cons_zero, List.getElem?_cons_succ, ]
  exact hK
theorem nob_Waits (hK : K (.int .i64 0) w) : callG Try.prog 27 #[v] w K := by
  refine disk_Disk_Waits_call ?_
  rcases h with rfl | ⟨b, T, fr, rfl, hb⟩
  · simpa [disk_Disk_Waits, disk_Disk_Waits_s0] using hK
  · simpa [disk_Disk_Waits, disk_Disk_Waits_s0, hb] using hK
theorem nob_Fuse (n : Int) (hK : K (.int .i64 1) w) : callG Try.prog 23 #[v, .int .i64 n] w K := by
  refine disk_Disk_Fuse_call ?_
  simp only [disk_Disk_Fuse, disk_Disk_Fuse_s0]
  refine nob_Size h ?_
  simp [-getElem?_pos, -Array.getElem?_eq_getElem, -List.length_flatten, List.getElem?_cons_zero, List.getElem?_cons_succ, ]
  exact hK
theorem nob_Off (hK : K (.bool false) w) : callG Try.prog 26 #[v] w K := by
  refine disk_Disk_Off_call ?_
  rcases h with rfl | ⟨b, T, fr, rfl, hb⟩
  · simpa [disk_Disk_Off, disk_Disk_Off_s0] using hK
  · simpa [disk_Disk_Off, disk_Disk_Off_s0, hb] using hK
theorem nob_Crash (ks : Value) (hK : K (.int .i64 1) w) : callG Try.prog 16 #[v, ks] w K := by
  refine disk_Disk_Crash_call ?_
  simp only [disk_Disk_Crash, disk_Disk_Crash_s4]
  refine nob_Size h ?_
  simp [-getElem?_pos, -Array.getElem?_eq_getElem, -List.length_flatten, List.getElem?_cons_zero, List.getElem?_cons_succ, ]
  exact hK
end
theorem nobody_call {n : Int} {s : ByteArray} {w0 : World} {R : Value → World → Prop} (hR : ∀ w', Kp [] w0 w' → R (.bool true) w') : callG Try.prog 6 #[.int .i64 n, .string s] w0 R := by
  refine law03_DiskNobody_call ?_
  simp only [law03_DiskNobody, law03_DiskNobody_s4]
  obtain ⟨z, hz⟩ : ∃ z : Array Value, z = #[.slice none 0 0, .slice none 0 0, .slice none 0 0, .int .i64 0, .bool false] := ⟨_, rfl⟩
  have hbld : ∀ K : Value → Prop, bld [(0, 1), (1, 1), (2, 1), (3, 1), (4, 1)] (zc Try.prog 56) #[] K = K (.agg z) := by intro K; rw [zc56, hz]; rfl
  rw [hbld, newG_k, bsl_two rfl rfl]
  obtain ⟨w1, hw1⟩ : ∃ w1, w1 = (w0.alloc (.cells (Value.agg z).cells 56)).alloc (.cells #[.pointer none, .pointer (some ⟨w0.heap.size, 0, none⟩)] 23) := ⟨_, rfl⟩
  have hk : Kp [] w0 w1 := by rw [hw1]; exact ((Kp.refl [] w0).alloc _).alloc _
  have hsl : w1.heap[w0.heap.size + 1]? = some (.cells #[.pointer none, .pointer (some ⟨w0.heap.size, 0, none⟩)] 23) := by
    rw [hw1]; have := @heap_new (w0.alloc (.cells (Value.agg z).cells 56)) (.cells #[.pointer none, .pointer (some ⟨w0.heap.size, 0, none⟩)] 23)
    simpa using this
  have hzb : w1.heap[w0.heap.size]? = some (.cells #[.slice none 0 0, .slice none 0 0, .slice none 0 0, .int .i64 0, .bool false] 56 (0, 0)) := by
    rw [hw1, heap_alloc, if_neg (by simp), heap_new, hz]; rfl
  have hss : (w0.alloc (.cells (Value.agg z).cells 56)).heap.size = w0.heap.size + 1 := by simp
  rw [← hw1, hss]
  simp only [law03_DiskNobody_s3]
  unfold law03_DiskNobody_L2
  refine loop_inv (fun m xs w => ∃ i : Nat, i ≤ 2 ∧ m = 2 - i ∧ xs = [.int .i64 n, .string s, .slice (some ⟨w0.heap.size + 1, 0, none⟩) 2 2, .int .i64 (i : Nat)] ∧ w = w1)
    ?_ (m := 2) ⟨0, by omega, rfl, rfl, rfl⟩
  rintro m N xs w ⟨i, hi, rfl, rfl, rfl⟩ hN
  simp only [law03_DiskNobody_L2F, law03_DiskNobody_b1, law03_DiskNobody_s0]
  have hin := fun h => hN (2 - (i + 1)) [.int .i64 n, .string s, .slice (some ⟨w0.heap.size + 1, 0, none⟩) 2 2, .int .i64 ((i + 1 : Nat) : Int)] w (by omega) ⟨i + 1, h, rfl, rfl, rfl⟩
  obtain ⟨v, hv⟩ : ∃ v, i < 2 → (#[.pointer none, .pointer (some ⟨w0.heap.size, 0, none⟩)] : Array Value)[i]? = some v ∧ Nob w v := by
    match i, hi with
    | 0, _ => exact ⟨_, fun _ => ⟨rfl, .inl rfl⟩⟩
    | 1, _ => exact ⟨_, fun _ => ⟨rfl, .inr ⟨_, _, _, rfl, hzb⟩⟩⟩
    | 2, _ => exact ⟨.pointer none, fun h => by omega⟩
  obtain ⟨c, hc⟩ : ∃ c : Array Value, c = #[.pointer none, .pointer (some ⟨w0.heap.size, 0, none⟩)] := ⟨_, rfl⟩
  rw [← hc] at hv hsl
  simp only [lenL_s, bq_lss, bV_b]
  refine ⟨fun hlt => ?_, fun _ => awake_spec fun w' hk' => hR w' (hk.trans' hk')⟩
  have hlt : i < 2 := by simp at hlt; omega
  obtain ⟨hv, hnb⟩ := hv hlt
  have hiw : IntKind.i64.wrap ((i : Int) + 1) = ((i + 1 : Nat) : Int) := by rw [w64 (by omega) (by omega)]; simp
  have hlti : (i : Int) < 2 := by omega
  simp [-getElem?_pos, -Array.getElem?_eq_getElem, -List.length_flatten, List.getElem?_cons_zero, List.getElem?_cons_succ, hsl, hv, hlti]
  refine nob_Read hnb n ?_
  simp [-getElem?_pos, -Array.getElem?_eq_getElem, -List.length_flatten, List.getElem?_cons_zero, List.getElem?_cons_succ, hsl, hv, hlti]
  refine nob_Size hnb ?_
  simp [-getElem?_pos, -Array.getElem?_eq_getElem, -List.length_flatten, List.getElem?_cons_zero, List.getElem?_cons_succ, hsl, hv, hlti]
  refine nob_Write hnb n s ?_
  simp [-getElem?_pos, -Array.getElem?_eq_getElem, -List.length_flatten, List.getElem?_cons_zero, List.getElem?_cons_succ, hsl, hv, hlti]
  refine nob_Flush hnb ?_
  simp [-getElem?_pos, -Array.getElem?_eq_getElem, -List.length_flatten, List.getElem?_cons_zero, List.getElem?_cons_succ, hsl, hv, hlti]
  refine nob_Waits hnb ?_
  simp [-getElem?_pos, -Array.getElem?_eq_getElem, -List.length_flatten, List.getElem?_cons_zero, List.getElem?_cons_succ, hsl, hv, hlti]
  refine nob_Fuse hnb n ?_
  simp [-getElem?_pos, -Array.getElem?_eq_getElem, -List.length_flatten, List.getElem?_cons_zero, List.getElem?_cons_succ, hsl, hv, hlti]
  refine nob_Off hnb ?_
  simp [-getElem?_pos, -Array.getElem?_eq_getElem, -List.length_flatten, List.getElem?_cons_zero, List.getElem?_cons_succ, hsl, hv, hlti]
  refine nob_Crash hnb _ ?_
  simp [-getElem?_pos, -Array.getElem?_eq_getElem, -List.length_flatten, List.getElem?_cons_zero, List.getElem?_cons_succ, hsl, hv, hlti, hiw]
  exact hin (by omega)
end Go.Proofs

/- Layer 4: awake. -/
set_option linter.unusedVariables false
set_option linter.unusedSimpArgs false
namespace Go.Proofs
open Go Go.Q
def aw4g : LG := ⟨1, 8, 3, [], []⟩
def aw4s : List (List UInt8) := [[111, 110, 101], [116, 119, 111]]
def aw4r : LG × DK × Int := addG aw4g (DK.fresh 8) aw4s
def aw4d : DK := aw4r.2.1.flush.1
theorem aw4_scan0 : scan 3 (allOf (DK.fresh 8) 1 7) = [] := by decide +kernel
theorem aw4_add : aw4r.2.2 = 0 := by decide +kernel
theorem aw4_flush : aw4r.2.1.flush.2 = 0 := by decide +kernel
theorem aw4_scan3 : scan 3 (allOf aw4d 1 7) = aw4s := by decide +kernel
theorem aw4_used : usedOf aw4s = 26 := by decide +kernel
theorem aw4_scan4 : scan 4 (allOf aw4d 1 7) = [] := by decide +kernel
theorem aw4_off : aw4d.off = false := by decide +kernel
theorem aw4_len : aw4d.now.length = 8 := by decide +kernel
theorem aw4_l : aw4r.2.1.l.length < 100 := by decide +kernel
theorem awake4_spec {w : World} {K : Value → World → Prop} (hK : ∀ w', Kp [] w w' → K (.bool true) w') : callG Try.prog 29 #[] w K := by
  refine law04_awake_call ?_
  simp only [law04_awake, law04_awake_s1]
  refine own_new (n := 8) (Kp.refl [] w) (by omega) (by omega) fun w1 b S1 o1 hk1 => ?_
  rw [ex0, ex1]
  refine Open_ok (lo := 1) (hi := 8) (turn := 3) o1.at_ rfl (by omega) (by simp [DK.fresh, secs0]) (by decide) fun w2 a lv SL hL2 hk2 ha2 hSL2 => ?_
  have o2 := o1.keep hk2
  rw [aw4_scan0] at hL2
  have hg : (⟨((1 : Nat) : Int), ((8 : Nat) : Int), 3, [], (allOf (DK.fresh 8) 1 (8 - 1)).take (usedOf [])⟩ : LG) = aw4g := by simp [usedOf, aw4g]
  rw [hg] at hL2
  have hsz2 := o1.kp.size
  simp [-getElem?_pos, -Array.getElem?_eq_getElem, -List.length_flatten, List.getElem?_cons_zero, List.getElem?_cons_succ, ]
  rw [bsl_two rfl rfl]
  obtain ⟨w3, hw3⟩ : ∃ w3, w3 = w2.alloc (.cells #[.string ⟨#[111, 110, 101]⟩, .string ⟨#[116, 119, 111]⟩] 9) := ⟨_, rfl⟩
  have hk3 : Kp [] w2 w3 := by rw [hw3]; exact (Kp.refl [] w2).alloc _
  have hb3 : w3.heap[w2.heap.size]? = some (.cells #[.string ⟨#[111, 110, 101]⟩, .string ⟨#[116, 119, 111]⟩] 9) := by rw [hw3]; exact heap_new
  have hg3 : RdAt w3 (.slice (some ⟨w2.heap.size, 0, none⟩) 2 2) 1 (aw4s.map strV) [w2.heap.size] :=
    .inr ⟨_, 0, 2, _, _, _, rfl, rfl, hb3, by simp [aw4s, strV], by simp [aw4s], by rfl, by simp [aw4s]⟩
  rw [← hw3]
  have o3 := o2.keep hk3
  have hS1 : ∀ x ∈ S1, x < w1.heap.size := fun x hx => by
    obtain ⟨bs, bn, lv, SL, T, Ts, Tn, rfl, hd⟩ := o1.at_
    exact hd.live x hx
  have hs3 := hk3.size
  have hs2 := hk2.size
  have hLl : ∀ x ∈ SL, x < w2.heap.size := hL2.2.1.lt
  have ha2' : a < w2.heap.size := lt_of_blk hL2.1
  have hw23 : w2.heap.size < w3.heap.size := lt_of_blk hb3
  refine Add_spec (lo := 1) (hi := 8) (hL2.keep hk3 (by simp) (by simp)) o3.at_ (.inr hg3) (fun hm => by have := hS1 _ hm; omega) (fun x hx hm => by have := hSL2 x hx; have := hS1 _ hm; omega) (fun x hx hm => by simp at hx; have := hS1 _ hm; omega)
    (fun x hx => by
      rcases List.mem_append.1 hx with hx | hx
      · rcases List.mem_append.1 hx with hx | hx
        · have := hLl x hx; omega
        · have := hS1 x hx; omega
      · simp at hx; omega) (by simp [aw4g, aw4s]) (by simp [aw4s]) rfl rfl (by omega) (by omega) (by simp [aw4g]) (by simp [DK.fresh]) fun w4 g4 d4 e4 S4 SL4 lv4 hres hL4 hd4 hS4 hSL4 hLS4 haS4 hk4 => ?_
  have hr1 : (g4, d4, e4) = aw4r := hres
  have he : e4 = 0 := by have := aw4_add; rw [← hr1] at this; exact this
  have hd : d4 = aw4r.2.1 := by rw [← hr1]
  subst he
  simp [-getElem?_pos, -Array.getElem?_eq_getElem, -List.length_flatten, List.getElem?_cons_zero, List.getElem?_cons_succ, ]
  have hS4n : ∀ x ∈ S4, w.heap.size ≤ x := fun x hx => by
    rcases hS4 x hx with h | h
    · exact o1.new x h
    · omega
  have hk04 : Kp [] w w4 := (o3.kp).trans hk4 fun x hx hlt => by
    rcases List.mem_cons.1 hx with rfl | hx
    · omega
    · rcases List.mem_append.1 hx with hx | hx
      · have := hSL2 x hx; omega
      · have := o1.new x hx; omega
  have hdl4 : d4.l.length < 2 ^ 40 := by rw [hd]; have := aw4_l; omega
  refine Sync_spec hL4 hd4 hdl4 fun w5 hd5 hk5 => ?_
  have hk05 : Kp [] w w5 := hk04.trans hk5 fun x hx hlt => by have := hS4n x hx; omega
  have hf : d4.flush.2 = 0 := by rw [hd]; exact aw4_flush
  have hd5' : d4.flush.1 = aw4d := by rw [hd]; rfl
  rw [hd5'] at hd5
  rw [hf]
  simp [-getElem?_pos, -Array.getElem?_eq_getElem, -List.length_flatten, List.getElem?_cons_zero, List.getElem?_cons_succ, ]
  unfold law04_awake_s0
  refine Open_ok (lo := 1) (hi := 8) (turn := 3) hd5 aw4_off (by omega) (by rw [aw4_len]; omega) (by decide) fun w6 a6 lv6 SL6 hL6 hk6 ha6 hSL6 => ?_
  rw [show (8 : Nat) - 1 = 7 from rfl, aw4_scan3, aw4_used] at hL6
  rw [ex0, ex1]
  have hd6 := hd5.keep hk6 (by simp)
  refine Open_ok (lo := 1) (hi := 8) (turn := 4) hd6 aw4_off (by omega) (by rw [aw4_len]; omega) (by decide) fun w7 a7 lv7 SL7 hL7 hk7 ha7 hSL7 => ?_
  rw [show (8 : Nat) - 1 = 7 from rfl, aw4_scan4] at hL7
  rw [ex0, ex1]
  simp [-getElem?_pos, -Array.getElem?_eq_getElem, -List.length_flatten, List.getElem?_cons_zero, List.getElem?_cons_succ, ]
  have hL67 := hL6.keep hk7 (by simp) (by simp)
  refine Records_spec hL67 (by simp [aw4s]) fun w8 v8 S8 hr8 hk8 hS8 => ?_
  rw [bsl_two rfl rfl]
  obtain ⟨w9, hw9⟩ : ∃ w9, w9 = w8.alloc (.cells #[.string ⟨#[111, 110, 101]⟩, .string ⟨#[116, 119, 111]⟩] 9) := ⟨_, rfl⟩
  have hk9 : Kp [] w8 w9 := by rw [hw9]; exact (Kp.refl [] w8).alloc _
  have hb9 : w9.heap[w8.heap.size]? = some (.cells #[.string ⟨#[111, 110, 101]⟩, .string ⟨#[116, 119, 111]⟩] 9) := by rw [hw9]; exact heap_new
  have hg9 : RdAt w9 (.slice (some ⟨w8.heap.size, 0, none⟩) 2 2) 1 (aw4s.map strV) [w8.heap.size] :=
    .inr ⟨_, 0, 2, _, _, _, rfl, rfl, hb9, by simp [aw4s, strV], by simp [aw4s], by rfl, by simp [aw4s]⟩
  rw [← hw9]
  refine same_spec (.inr (hr8.keep hk9 (by simp)).rd) (.inr hg9) (by simp [aw4s]) fun w10 hk10 => ?_
  simp [-getElem?_pos, -Array.getElem?_eq_getElem, -List.length_flatten, List.getElem?_cons_zero, List.getElem?_cons_succ, ]
  have hk810 := (hk8.trans' hk9).trans' hk10
  refine Used_spec (hL67.keep hk810 (by simp) (by simp)) ?_
  have hul : ((allOf aw4d 1 7).take 26).length = 26 := by
    have hok : aw4d.Ok := by obtain ⟨bs, bn, lv, SL, T, Ts, Tn, rfl, hd⟩ := hd5; exact hd.ok
    have := allOf_len hok (lo := 1) (n := 7) (by rw [aw4_len]; omega)
    rw [List.length_take, this]; rfl
  simp only [hul]
  simp [-getElem?_pos, -Array.getElem?_eq_getElem, -List.length_flatten, List.getElem?_cons_zero, List.getElem?_cons_succ, ]
  refine Records_spec (hL7.keep hk810 (by simp) (by simp)) (by simp) fun w11 v11 S11 hr11 hk11 hS11 => ?_
  rw [hr11.rd.lenL]
  simp [-getElem?_pos, -Array.getElem?_eq_getElem, -List.length_flatten, List.getElem?_cons_zero, List.getElem?_cons_succ, ]
  exact hK w11 ((((hk05.trans' hk6).trans' hk7).trans' hk810).trans' hk11)
end Go.Proofs

set_option linter.unusedVariables false
set_option linter.unusedSimpArgs false
namespace Go.Proofs
open Go Go.Q
set_option maxRecDepth 100000
/-! quayside/quaysidelaw04.WalFrames -/
def law04_WalFrames_s0 (R : Value → World → Prop) (x0 x1 x7 x8 : Value) (w : World) : Prop :=
  qG Try.prog (bq .neq 24 (.tmp 69) (.const (.int .i64 0)) x8 (.int .i64 0)) w fun t70 =>
  bV t70
  (callG Try.prog 29 #[] w fun t71 w =>
  R t71 w)
  (callG Try.prog 32 #[x0, x7] w fun t75 w =>
  qG Try.prog (Instr.extract t75 0) w fun t76 =>
  qG Try.prog (Instr.extract t75 1) w fun t77 =>
  bsl 9 1 1 (zc Try.prog 9) #[(0, x1)] w fun t80 w =>
  callG Try.prog 34 #[t76, t80] w fun t81 w =>
  bV t81
  (lenS x7 fun t85 =>
  qG Try.prog (bq .eql 3 (.tmp 83) (.tmp 85) t77 t85) w fun t86 =>
  bV t86
  (lenS x7 fun t90 =>
  lenS x1 fun t92 =>
  qG Try.prog (bq .add 3 (.const (.int .i64 10)) (.tmp 92) (.int .i64 10) t92) w fun t93 =>
  qG Try.prog (bq .eql 3 (.tmp 90) (.tmp 93) t90 t93) w fun t94 =>
  bV t94
  (callG Try.prog 29 #[] w fun t97 w =>
  R t97 w)
  (R (.bool false) w))
  (R (.bool false) w))
  (R (.bool false) w))

theorem law04_WalFrames_s0_eq (R : Value → World → Prop) : ∀ e w, lift Try.prog 99 (sub (bodyOf Try.f7) [1, 1, 1, 1, 1, 1, 1]) (finK Try.prog Try.f7.results.toList R) e w = law04_WalFrames_s0 R (e 0) (e 1) (e 7) (e 8) w := fun e w => by kernel_rfl

def law04_WalFrames_s1 (R : Value → World → Prop) (x0 x1 x2 : Value) (w : World) : Prop :=
  callG Try.prog 30 #[x0, x1] w fun t29 w =>
  qG Try.prog (Instr.extract t29 0) w fun t30 =>
  qG Try.prog (Instr.extract t29 1) w fun t31 =>
  callG Try.prog 31 #[x0, x1] w fun t35 w =>
  qG Try.prog (Instr.extract t35 0) w fun t36 =>
  qG Try.prog (Instr.extract t35 1) w fun t37 =>
  callG Try.prog 32 #[x0, x2] w fun t41 w =>
  qG Try.prog (Instr.extract t41 0) w fun t42 =>
  qG Try.prog (Instr.extract t41 1) w fun t43 =>
  callG Try.prog 33 #[x0, x2] w fun t47 w =>
  qG Try.prog (Instr.extract t47 0) w fun t48 =>
  qG Try.prog (Instr.extract t47 1) w fun t49 =>
  qG Try.prog (bq .neq 9 (.tmp 50) (.tmp 51) t30 t36) w fun t52 =>
  bV t52
  (R (.bool false) w)
  (qG Try.prog (bq .neq 24 (.tmp 54) (.tmp 55) t31 t37) w fun t56 =>
  bV t56
  (R (.bool false) w)
  (callG Try.prog 34 #[t42, t48] w fun t61 w =>
  qG Try.prog (Op.unary .not t61) w fun t62 =>
  bV t62
  (R (.bool false) w)
  (qG Try.prog (bq .neq 3 (.tmp 65) (.tmp 66) t43 t49) w fun t67 =>
  bV t67
  (R (.bool false) w)
  (law04_WalFrames_s0 R x0 x1 t30 t31 w))))

theorem law04_WalFrames_s1_eq (R : Value → World → Prop) : ∀ e w, lift Try.prog 99 (sub (bodyOf Try.f7) [1, 1]) (finK Try.prog Try.f7.results.toList R) e w = law04_WalFrames_s1 R (e 0) (e 1) (e 2) w :=
  segs_eq (l := [(sub (bodyOf Try.f7) [1, 1, 0]), (sub (bodyOf Try.f7) [1, 1, 1, 0]), (sub (bodyOf Try.f7) [1, 1, 1, 1, 0]), (sub (bodyOf Try.f7) [1, 1, 1, 1, 1, 0]), (sub (bodyOf Try.f7) [1, 1, 1, 1, 1, 1, 0])]) (y := (sub (bodyOf Try.f7) [1, 1, 1, 1, 1, 1, 1])) (Y := (fun e w => law04_WalFrames_s0 R (e 0) (e 1) (e 7) (e 8) w)) (law04_WalFrames_s0_eq R) (fun e w => by kernel_rfl)

def law04_WalFrames_s2 (R : Value → World → Prop) (x0 x1 x2 : Value) (w : World) : Prop :=
  lenS x1 fun t18 =>
  qG Try.prog (bq .gtr 3 (.tmp 18) (.const (.int .i64 2048)) t18 (.int .i64 2048)) w fun t19 =>
  bV t19
  (callG Try.prog 29 #[] w fun t25 w =>
  R t25 w)
  (lenS x2 fun t22 =>
  qG Try.prog (bq .gtr 3 (.tmp 22) (.const (.int .i64 1024)) t22 (.int .i64 1024)) w fun t23 =>
  bV t23
  (callG Try.prog 29 #[] w fun t25_1 w =>
  R t25_1 w)
  (law04_WalFrames_s1 R x0 x1 x2 w))

theorem law04_WalFrames_s2_eq (R : Value → World → Prop) : ∀ e w, lift Try.prog 99 (bodyOf Try.f7) (finK Try.prog Try.f7.results.toList R) e w = law04_WalFrames_s2 R (e 0) (e 1) (e 2) w :=
  segs_eq (l := [(sub (bodyOf Try.f7) [0]), (sub (bodyOf Try.f7) [1, 0])]) (y := (sub (bodyOf Try.f7) [1, 1])) (Y := (fun e w => law04_WalFrames_s1 R (e 0) (e 1) (e 2) w)) (law04_WalFrames_s1_eq R) (fun e w => by kernel_rfl)

def law04_WalFrames (R : Value → World → Prop) (x0 x1 x2 : Value) (w : World) : Prop := law04_WalFrames_s2 R x0 x1 x2 w
theorem law04_WalFrames_call {R : Value → World → Prop} {x0 x1 x2 : Value} {w : World} (h : law04_WalFrames R x0 x1 x2 w) : callG Try.prog 7 #[x0, x1, x2] w R :=
  calls_lift_eq Try.mixed Try.func7 (args := [x0, x1, x2]) rfl rfl rfl rfl ((law04_WalFrames_s2_eq R) (envOf [x0, x1, x2]) w) (by kernel_rfl) h
/-! quayside/quaysidelaw04.WalNobody -/
def law04_WalNobody_s0 (R : Value → World → Prop) (w : World) : Prop :=
  callG Try.prog 29 #[] w fun t84 w =>
  R t84 w

theorem law04_WalNobody_s0_eq (R : Value → World → Prop) : ∀ e w, lift Try.prog 85 (sub (bodyOf Try.f9) [1, 1, 1, 1, 1, 1]) (finK Try.prog Try.f9.results.toList R) e w = law04_WalNobody_s0 R w := fun e w => by kernel_rfl

def law04_WalNobody_b1 (R : Value → World → Prop) (N1 : List Value → World → Prop) (x11 x12 : Value) (w : World) : Prop :=
  lenL x11 fun t48 =>
  qG Try.prog (bq .lss 3 (.tmp 46) (.tmp 48) x12 t48) w fun t49 =>
  bV t49
  (ia 1 x11 x12 fun t54 =>
  ld1 t54 w fun t55 =>
  callG Try.prog 37 #[t55] w fun t56 w =>
  lenL t56 fun t57 =>
  qG Try.prog (bq .gtr 3 (.tmp 57) (.const (.int .i64 0)) t57 (.int .i64 0)) w fun t58 =>
  bV t58
  (R (.bool false) w)
  (ia 1 x11 x12 fun t62 =>
  ld1 t62 w fun t63 =>
  bsl 9 1 1 (zc Try.prog 9) #[(0, (.string ⟨#[120]⟩))] w fun t64 w =>
  callG Try.prog 36 #[t63, t64] w fun t65 w =>
  qG Try.prog (bq .neq 24 (.tmp 65) (.const (.int .i64 1)) t65 (.int .i64 1)) w fun t66 =>
  bV t66
  (R (.bool false) w)
  (ia 1 x11 x12 fun t71 =>
  ld1 t71 w fun t72 =>
  callG Try.prog 39 #[t72] w fun t73 w =>
  qG Try.prog (bq .neq 24 (.tmp 73) (.const (.int .i64 1)) t73 (.int .i64 1)) w fun t74 =>
  bV t74
  (R (.bool false) w)
  (ia 1 x11 x12 fun t79 =>
  ld1 t79 w fun t80 =>
  callG Try.prog 38 #[t80] w fun t81 w =>
  qG Try.prog (bq .neq 3 (.tmp 81) (.const (.int .i64 0)) t81 (.int .i64 0)) w fun t82 =>
  bV t82
  (R (.bool false) w)
  (qG Try.prog (bq .add 3 (.tmp 50) (.const (.int .i64 1)) x12 (.int .i64 1)) w fun t51 =>
  N1 [x11, t51] w)))))
  (law04_WalNobody_s0 R  w)

theorem law04_WalNobody_b1_eq (R : Value → World → Prop) (N1 : List Value → World → Prop) : ∀ e w, lift Try.prog 85 (sub (bodyOf Try.f9) [1, 1, 1, 1, 1, 0, 1, 0, 0]) (seqK (fun e w => N1 [e 11, e 12] w) (blockK 0 (seqK (fun e w => law04_WalNobody_s0 R  w) (finK Try.prog Try.f9.results.toList R)))) e w = law04_WalNobody_b1 R N1 (e 11) (e 12) w := fun e w => by kernel_rfl

def law04_WalNobody_L2F (R : Value → World → Prop) (N1 : List Value → World → Prop) (xs : List Value) (w : World) : Prop :=
  match xs with
  | [x11, x12] => law04_WalNobody_b1 R N1 x11 x12 w
  | _ => False

def law04_WalNobody_L2 (R : Value → World → Prop) (x11 x12 : Value) (w : World) : Prop :=
  ∃ m, loopV (law04_WalNobody_L2F R) m [x11, x12] w

theorem law04_WalNobody_L2_eq (R : Value → World → Prop) : ∀ e w, lift Try.prog 85 (sub (bodyOf Try.f9) [1, 1, 1, 1, 1, 0, 1, 0]) (blockK 0 (seqK (fun e w => law04_WalNobody_s0 R  w) (finK Try.prog Try.f9.results.toList R))) e w = law04_WalNobody_L2 R (e 11) (e 12) w := loop_seg (F := law04_WalNobody_L2F R) (sel := fun e => [e 11, e 12]) fun N1 => (law04_WalNobody_b1_eq R N1)

def law04_WalNobody_s3 (R : Value → World → Prop) (x11 : Value) (w : World) : Prop :=
  law04_WalNobody_L2 R x11 (.int .i64 0) w

theorem law04_WalNobody_s3_eq (R : Value → World → Prop) : ∀ e w, lift Try.prog 85 (sub (bodyOf Try.f9) [1, 1, 1, 1, 1, 0]) (seqK (fun e w => law04_WalNobody_s0 R  w) (finK Try.prog Try.f9.results.toList R)) e w = law04_WalNobody_s3 R (e 11) w :=
  segs_eq (l := [(sub (bodyOf Try.f9) [1, 1, 1, 1, 1, 0, 0])]) (y := (sub (bodyOf Try.f9) [1, 1, 1, 1, 1, 0, 1])) (Y := (fun e w => law04_WalNobody_L2 R (e 11) (e 12) w)) (law04_WalNobody_L2_eq R) (fun e w => by kernel_rfl)

def law04_WalNobody_s4 (R : Value → World → Prop) (w : World) : Prop :=
  bld [(0, 1), (1, 1), (2, 1), (3, 1), (4, 1), (5, 1)] (zc Try.prog 71) #[] fun t43 =>
  newG (Value.cells t43) 71 w fun t44 w =>
  bsl 64 1 2 (zc Try.prog 64) #[(0, (.pointer none)), (1, t44)] w fun t45 w =>
  law04_WalNobody_s3 R t45 w

theorem law04_WalNobody_s4_eq (R : Value → World → Prop) : ∀ e w, lift Try.prog 85 (sub (bodyOf Try.f9) [1, 1, 1, 1]) (finK Try.prog Try.f9.results.toList R) e w = law04_WalNobody_s4 R w :=
  segs_eq (l := [(sub (bodyOf Try.f9) [1, 1, 1, 1, 0])]) (y := (sub (bodyOf Try.f9) [1, 1, 1, 1, 1])) (Y := (fun e w => law04_WalNobody_s3 R (e 11) w)) (seq_seg (x := (sub (bodyOf Try.f9) [1, 1, 1, 1, 1, 0])) (y := (sub (bodyOf Try.f9) [1, 1, 1, 1, 1, 1])) (law04_WalNobody_s0_eq R) (law04_WalNobody_s3_eq R)) (fun e w => by kernel_rfl)

def law04_WalNobody_s5 (R : Value → World → Prop) (x0 x1 x2 : Value) (w : World) : Prop :=
  callG Try.prog 35 #[(.pointer none), x0, x1, x2] w fun t17 w =>
  qG Try.prog (Instr.extract t17 0) w fun t18 =>
  qG Try.prog (Instr.extract t17 1) w fun t19 =>
  bld [(0, 1), (1, 1), (2, 1), (3, 1), (4, 1)] (zc Try.prog 56) #[] fun t21 =>
  newG (Value.cells t21) 56 w fun t22 w =>
  callG Try.prog 35 #[t22, x0, x1, x2] w fun t26 w =>
  qG Try.prog (Instr.extract t26 0) w fun t27 =>
  qG Try.prog (Instr.extract t26 1) w fun t28 =>
  qG Try.prog (bq .neq 64 (.tmp 29) (.const (.pointer none)) t18 (.pointer none)) w fun t30 =>
  bV t30
  (R (.bool false) w)
  (qG Try.prog (bq .neq 24 (.tmp 32) (.const (.int .i64 1)) t19 (.int .i64 1)) w fun t33 =>
  bV t33
  (R (.bool false) w)
  (qG Try.prog (bq .neq 64 (.tmp 36) (.const (.pointer none)) t27 (.pointer none)) w fun t37 =>
  bV t37
  (R (.bool false) w)
  (qG Try.prog (bq .neq 24 (.tmp 40) (.const (.int .i64 1)) t28 (.int .i64 1)) w fun t41 =>
  bV t41
  (R (.bool false) w)
  (law04_WalNobody_s4 R  w))))

theorem law04_WalNobody_s5_eq (R : Value → World → Prop) : ∀ e w, lift Try.prog 85 (bodyOf Try.f9) (finK Try.prog Try.f9.results.toList R) e w = law04_WalNobody_s5 R (e 0) (e 1) (e 2) w :=
  segs_eq (l := [(sub (bodyOf Try.f9) [0]), (sub (bodyOf Try.f9) [1, 0]), (sub (bodyOf Try.f9) [1, 1, 0]), (sub (bodyOf Try.f9) [1, 1, 1, 0])]) (y := (sub (bodyOf Try.f9) [1, 1, 1, 1])) (Y := (fun e w => law04_WalNobody_s4 R w)) (law04_WalNobody_s4_eq R) (fun e w => by kernel_rfl)

def law04_WalNobody (R : Value → World → Prop) (x0 x1 x2 : Value) (w : World) : Prop := law04_WalNobody_s5 R x0 x1 x2 w
theorem law04_WalNobody_call {R : Value → World → Prop} {x0 x1 x2 : Value} {w : World} (h : law04_WalNobody R x0 x1 x2 w) : callG Try.prog 9 #[x0, x1, x2] w R :=
  calls_lift_eq Try.mixed Try.func9 (args := [x0, x1, x2]) rfl rfl rfl rfl ((law04_WalNobody_s5_eq R) (envOf [x0, x1, x2]) w) (by kernel_rfl) h
end Go.Proofs

/- WalFrames. -/
set_option linter.unusedVariables false
set_option linter.unusedSimpArgs false
namespace Go.Proofs
open Go Go.Q
theorem lenAt_frame (t : Int) (s : List UInt8) (h : s.length ≤ 1024) : lenAt (frameB t s) = s.length := by
  have h0 : (putB (s.length : Int) 0).toNat = s.length % 256 := by unfold putB; simp; omega
  have h1 : (putB (s.length : Int) 1).toNat = s.length / 256 % 256 := by unfold putB; simp; omega
  have e : lenAt (frameB t s) = (putB (s.length : Int) 0).toNat + (putB (s.length : Int) 1).toNat * 2 ^ 8 := by
    simp [lenAt, frameB, headOf, put4, List.getD]
  rw [e, h0, h1]; omega
theorem scan_frame (t : Int) (s : List UInt8) (h : (frame t s).2 = 0) : (frame t s).1.length = 10 + s.length ∧ scan t (frame t s).1 = [s] ∧ usedOf [s] = 10 + s.length := by
  have hc : turnOk t = true ∧ s ≠ [] ∧ s.length ≤ 1024 := by
    unfold frame at h
    split at h
    · assumption
    · simp at h
  have hf : frame t s = (frameB t s, 0) := by unfold frame; rw [if_pos hc]
  have hl := frameB_len t s
  have hs : s.length ≠ 0 := by simpa using hc.2.1
  have hla := lenAt_frame t s hc.2.2
  have hrec : recOf (frameB t s) = s := by
    unfold recOf
    rw [hla]
    have : (frameB t s).drop 10 = s := by
      unfold frameB
      rw [List.drop_left' (by simp [headOf_len, put4_len])]
    rw [this, List.take_length]
  have hok : nextOk t (frameB t s) = true := (next_frame t _).2 ⟨by omega, by omega, by omega, by omega, by
    rw [hrec, hf, hla, List.take_of_length_le (by omega)]⟩
  refine ⟨by rw [hf]; exact hl, ?_, by simp [usedOf]⟩
  rw [hf]
  show scan t (frameB t s) = [s]
  unfold scan
  obtain ⟨n, hn⟩ : ∃ n, (frameB t s).length = n + 1 := ⟨(frameB t s).length - 1, by omega⟩
  rw [hn]
  unfold scanL
  rw [if_pos hok, hrec, hla, List.drop_of_length_le (by omega)]
  have hnil : scanL t n [] = [] := by
    cases n with
    | zero => rfl
    | succ n => unfold scanL; rw [if_neg (by simp [nextOk])]
  rw [hnil]
theorem frames_call {w0 : World} {t : Int} {s bytes : List UInt8} {R : Value → World → Prop} (hR : ∀ w', Kp [] w0 w' → R (.bool true) w') : callG Try.prog 7 #[.int .i64 t, .string (str s), .string (str bytes)] w0 R := by
  refine law04_WalFrames_call ?_
  simp only [law04_WalFrames, law04_WalFrames_s2, lenS_s, str_size, bq_gtr, bV_b]
  have haw : ∀ w', Kp [] w0 w' → callG Try.prog 29 #[] w' fun t w => R t w := fun w' hk => awake4_spec fun w'' hk' => hR w'' (hk.trans' hk')
  refine ⟨fun _ => haw w0 (Kp.refl _ _), fun h1 => ⟨fun _ => haw w0 (Kp.refl _ _), fun h2 => ?_⟩⟩
  have h1 : s.length ≤ 2048 := by simp at h1; omega
  have h2 : bytes.length ≤ 1024 := by simp at h2; omega
  unfold law04_WalFrames_s1
  refine Frame_spec t s (by omega) fun w1 hk1 => ?_
  rw [ex0, ex1]
  refine refFrame_spec t s (by omega) fun w2 hk2 => ?_
  rw [ex0, ex1]
  refine Scan_spec t bytes (by omega) fun w3 v3 S3 hr3 hk3 hS3 => ?_
  rw [ex0, ex1]
  refine refScan_spec t bytes (by omega) fun w4 v4 S4 hr4 hk4 hS4 => ?_
  rw [ex0, ex1]
  have hk04 := ((hk1.trans' hk2).trans' hk3).trans' hk4
  have hul := scan_used t bytes
  have hll := usedOf_len (scan t bytes)
  simp [-getElem?_pos, -Array.getElem?_eq_getElem, -List.length_flatten, List.getElem?_cons_zero, List.getElem?_cons_succ, ]
  refine same_spec (.inr (hr3.keep hk4 (by simp)).rd) (.inr hr4.rd) (by omega) fun w5 hk5 => ?_
  simp [-getElem?_pos, -Array.getElem?_eq_getElem, -List.length_flatten, List.getElem?_cons_zero, List.getElem?_cons_succ, ]
  unfold law04_WalFrames_s0
  have hk05 := hk04.trans' hk5
  simp [-getElem?_pos, -Array.getElem?_eq_getElem, -List.length_flatten, List.getElem?_cons_zero, List.getElem?_cons_succ, ]
  refine ⟨fun he => haw w5 hk05, fun he => ?_⟩
  obtain ⟨f1, f2, f3⟩ := scan_frame t s he
  have hfl := frame_len_le t s
  refine Scan_spec t (frame t s).1 (by omega) fun w6 v6 S6 hr6 hk6 hS6 => ?_
  rw [ex0, ex1]
  rw [f2] at hr6
  rw [f2, f3]
  rw [bsl_one rfl]
  obtain ⟨w7, hw7⟩ : ∃ w7, w7 = w6.alloc (.cells #[.string (str s)] 9) := ⟨_, rfl⟩
  have hk7 : Kp [] w6 w7 := by rw [hw7]; exact (Kp.refl [] w6).alloc _
  have hb7 : w7.heap[w6.heap.size]? = some (.cells #[.string (str s)] 9) := by rw [hw7]; exact heap_new
  rw [← hw7]
  have hs7 : RdAt w7 (.slice (some ⟨w6.heap.size, 0, none⟩) 1 1) 1 ([s].map strV) [w6.heap.size] :=
    .inr ⟨_, 0, 1, _, _, _, rfl, rfl, hb7, by simp [strV], by simp, by simp [strV], by simp⟩
  refine same_spec (.inr (hr6.keep hk7 (by simp)).rd) (.inr hs7) (by simp) fun w8 hk8 => ?_
  have e1 : IntKind.i64.wrap (10 + (s.length : Int)) = 10 + (s.length : Int) := w64 (by omega) (by omega)
  have e2 : (((frame t s).1.length : Nat) : Int) = 10 + (s.length : Int) := by omega
  simp [-getElem?_pos, -Array.getElem?_eq_getElem, -List.length_flatten, List.getElem?_cons_zero, List.getElem?_cons_succ, e1, f1]
  exact haw w8 (((hk05.trans' hk6).trans' hk7).trans' hk8)
end Go.Proofs

/- Plain: the bytes of a disk's sectors; what Add writes; what a log's bytes scan to. -/
set_option linter.unusedVariables false
set_option linter.unusedSimpArgs false
namespace Go.Proofs
open Go Go.Q
/-- a byte of all sectors -/
def byteAt (L : List (List UInt8)) (p : Nat) : UInt8 := (L.getD (p / 32) []).getD (p % 32) 0
theorem getD_set {α : Type} (L : List α) (k i : Nat) (s z : α) (hk : k < L.length) : (L.set k s).getD i z = if i = k then s else L.getD i z := by
  simp only [List.getD_eq_getElem?_getD, List.getElem?_set]
  by_cases h : i = k
  · subst h; simp [hk]
  · rw [if_neg h, if_neg (by omega)]
theorem byteAt_set {L : List (List UInt8)} {k : Nat} {s : List UInt8} (hk : k < L.length) (p : Nat) : byteAt (L.set k s) p = if p / 32 = k then s.getD (p % 32) 0 else byteAt L p := by
  unfold byteAt
  rw [getD_set L k (p / 32) s [] hk]
  split <;> rfl
theorem byteAt_flat {L : List (List UInt8)} (h : ∀ x ∈ L, x.length = 32) (p : Nat) : L.flatten.getD p 0 = byteAt L p := by
  have hl := flat_len h
  unfold byteAt
  by_cases hp : p / 32 < L.length
  · have hg := flat_get h hp
    have h1 : L.getD (p / 32) [] = L[p / 32] := by simp [List.getD, hp]
    rw [h1, ← hg]
    simp only [List.getD_eq_getElem?_getD]
    rw [List.getElem?_take_of_lt (by omega), List.getElem?_drop]
    congr 2; omega
  · have h1 : L.getD (p / 32) [] = [] := by rw [List.getD_eq_getElem?_getD, List.getElem?_eq_none (by omega)]; rfl
    have e1 : L.flatten[p]? = none := List.getElem?_eq_none (by omega)
    rw [h1, List.getD_eq_getElem?_getD, e1]
    rfl
theorem byteAt_all {L : List (List UInt8)} (h : ∀ x ∈ L, x.length = 32) {M : List (List UInt8)} (hM : ∀ x ∈ M, x.length = 32) (hl : L.length = M.length) (he : ∀ p, byteAt L p = byteAt M p) : L.flatten = M.flatten := by
  apply List.ext_getElem?
  intro p
  have h1 := flat_len h
  have h2 := flat_len hM
  have h3 := byteAt_flat h p
  have h4 := byteAt_flat hM p
  rw [he] at h3
  rw [← h4] at h3
  by_cases hp : p < L.flatten.length
  · have hp2 : p < M.flatten.length := by rw [h2, ← hl, ← h1]; exact hp
    rw [List.getElem?_eq_getElem hp, List.getElem?_eq_getElem hp2]
    simp only [List.getD_eq_getElem?_getD, List.getElem?_eq_getElem hp, List.getElem?_eq_getElem hp2, Option.getD_some] at h3
    rw [h3]
  · have hp2 : ¬ p < M.flatten.length := by rw [h2, ← hl, ← h1]; exact hp
    rw [List.getElem?_eq_none (by omega), List.getElem?_eq_none (by omega)]
/-- what follows of a list whose bytes begin so -/
theorem pre_flat {L : List (List UInt8)} (h : ∀ x ∈ L, x.length = 32) {P : List UInt8} (hl : P.length ≤ 32 * L.length) (he : ∀ p, p < P.length → byteAt L p = P.getD p 0) : ∃ r, L.flatten = P ++ r := by
  have h1 := flat_len h
  refine ⟨L.flatten.drop P.length, ?_⟩
  apply List.ext_getElem?
  intro p
  by_cases hp : p < P.length
  · rw [List.getElem?_append_left hp]
    have h3 := byteAt_flat h p
    rw [he p hp] at h3
    have hp2 : p < L.flatten.length := by rw [h1]; omega
    rw [List.getElem?_eq_getElem hp, List.getElem?_eq_getElem hp2]
    simp only [List.getD_eq_getElem?_getD, List.getElem?_eq_getElem hp, List.getElem?_eq_getElem hp2, Option.getD_some] at h3
    rw [h3]
  · rw [List.getElem?_append_right (by omega), List.getElem?_drop]
    congr 1; omega

theorem secOf_getD {all : List UInt8} {k j : Nat} : (secOf all k).getD j 0 = if 32 * k + j < min (32 * k + 32) all.length then all.getD (32 * k + j) 0 else 0 := by
  unfold secOf
  simp only [List.getD_eq_getElem?_getD, List.getElem?_drop, List.getElem?_take]
  split <;> rfl
theorem secOf_len {all : List UInt8} {k : Nat} : (secOf all k).length = min (32 * k + 32) all.length - 32 * k := by simp [secOf]
/-- the bytes that are written -/
theorem sec_bytes {all was : List UInt8} {k j : Nat} (hj : j < 32) : (secOf all k ++ was.drop (secOf all k).length).getD j 0 = if 32 * k + j < all.length then all.getD (32 * k + j) 0 else was.getD j 0 := by
  have hl := secOf_len (all := all) (k := k)
  by_cases h : j < (secOf all k).length
  · have h1 := secOf_getD (all := all) (k := k) (j := j)
    rw [if_pos (by omega)] at h1
    rw [if_pos (by omega), ← h1]
    simp only [List.getD_eq_getElem?_getD]
    rw [List.getElem?_append_left h]
  · rw [if_neg (by omega)]
    simp only [List.getD_eq_getElem?_getD]
    rw [List.getElem?_append_right (by omega), List.getElem?_drop]
    congr 2; omega
structure PutOf (all : List UInt8) (d : DK) (k n : Nat) (r : DK × Int) : Prop where
  sure : r.1.sure = d.sure
  len : r.1.now.length = d.now.length
  rows : ∀ x ∈ r.1.now, x.length = 32
  wr : ∀ x ∈ r.1.l, x ∈ d.l ∨ ∀ j, j < 32 → 32 * x.1 + j < all.length → x.2.getD j 0 = all.getD (32 * x.1 + j) 0
  now : r.2 = 0 → ∀ p, byteAt r.1.now p = if 32 * k ≤ p ∧ p < 32 * (k + n) ∧ p < all.length then all.getD p 0 else byteAt d.now p
theorem putK_of {all : List UInt8} {d : DK} {k : Nat} (h : ∀ x ∈ d.now, x.length = 32) (hk : k < d.now.length) : PutOf all d k 1 (putK d 0 all k) := by
  have hr : (d.read ((0 + k : Nat) : Int)) = if d.off = true then ([], 30) else (d.now.getD k [], 0) := by
    unfold DK.read
    rw [if_pos ⟨by omega, by omega⟩]
    simp
  have hin : (d.now.getD k []).length = 32 := by simp only [List.getD, List.getElem?_eq_getElem hk, Option.getD_some]; exact h _ (List.getElem_mem hk)
  unfold putK
  rw [hr]
  by_cases ho : d.off = true
  · rw [if_pos ho, if_neg (by simp)]
    exact ⟨rfl, rfl, h, fun x hx => .inl hx, fun h => by simp at h⟩
  · rw [if_neg ho, if_pos rfl]
    simp only
    obtain ⟨b1, b2, b3⟩ := DK.burns_now d
    have hs : (secOf all k ++ (d.now.getD k []).drop (secOf all k).length).length = 32 := by
      rw [List.length_append, List.length_drop, hin, secOf_len]; omega
    unfold DK.write
    rw [if_pos ⟨⟨by omega, by omega⟩, hs⟩]
    by_cases hb : d.burns.2 = true
    · rw [if_pos hb]
      have hkn : (((0 + k : Nat) : Int)).toNat = k := by omega
      simp only [hkn]
      refine ⟨b3, by simp, ?_, ?_, ?_⟩
      · intro x hx
        rcases List.mem_or_eq_of_mem_set hx with h1 | h1
        · exact h x h1
        · rw [h1]; exact hs
      · intro x hx
        rw [List.mem_append] at hx
        rcases hx with h1 | h1
        · exact .inl h1
        · right
          simp only [List.mem_singleton] at h1
          subst h1
          intro j hj hlt
          simp only at hlt ⊢
          rw [sec_bytes hj, if_pos hlt]
      · intro _ p
        rw [byteAt_set hk]
        by_cases hp : p / 32 = k
        · rw [if_pos hp, sec_bytes (by omega)]
          have e : 32 * k + p % 32 = p := by omega
          rw [e]
          by_cases hl : p < all.length
          · rw [if_pos hl, if_pos ⟨by omega, by omega, hl⟩]
          · rw [if_neg hl, if_neg (by omega)]
            unfold byteAt
            rw [hp]
        · rw [if_neg hp, if_neg (by omega)]
    · rw [if_neg hb]
      exact ⟨b3, by simp [b1], by simpa [b1] using h, fun x hx => .inl (by simpa [b2] using hx), fun h => by simp at h⟩
theorem putN_of {all : List UInt8} : ∀ (n : Nat) {d : DK} {k : Nat}, (∀ x ∈ d.now, x.length = 32) → k + n ≤ d.now.length → PutOf all d k n (putN 0 all d k n) := by
  intro n
  induction n with
  | zero =>
    intro d k h hk
    exact ⟨rfl, rfl, h, fun x hx => .inl hx, fun _ p => by rw [if_neg (by omega)]; rfl⟩
  | succ n ih =>
    intro d k h hk
    have h1 := putK_of (all := all) h (k := k) (by omega)
    unfold putN
    by_cases h0 : (putK d 0 all k).2 = 0
    · rw [if_pos h0]
      have h2 := ih (d := (putK d 0 all k).1) (k := k + 1) h1.rows (by rw [h1.len]; omega)
      refine ⟨h2.sure.trans h1.sure, h2.len.trans h1.len, h2.rows, ?_, ?_⟩
      · intro x hx
        rcases h2.wr x hx with h3 | h3
        · exact h1.wr x h3
        · exact .inr h3
      · intro hz p
        rw [h2.now hz p, h1.now h0 p]
        by_cases c1 : 32 * (k + 1) ≤ p ∧ p < 32 * (k + 1 + n) ∧ p < all.length
        · rw [if_pos c1, if_pos (by omega)]
        · rw [if_neg c1]
          by_cases c2 : 32 * k ≤ p ∧ p < 32 * (k + 1) ∧ p < all.length
          · rw [if_pos c2, if_pos (by omega)]
          · rw [if_neg c2, if_neg (by omega)]
    · rw [if_neg h0]
      exact ⟨h1.sure, h1.len, h1.rows, h1.wr, fun hz => absurd hz h0⟩
/-! ### a disk whose power does not go off -/
structure Calm (d : DK) : Prop where
  off : d.off = false
  fuse : d.fuse = -1
theorem putK_calm {all : List UInt8} {d : DK} {k : Nat} (h : ∀ x ∈ d.now, x.length = 32) (hk : k < d.now.length) (c : Calm d) : (putK d 0 all k).2 = 0 ∧ Calm (putK d 0 all k).1 := by
  have hr : (d.read ((0 + k : Nat) : Int)) = (d.now.getD k [], 0) := by
    unfold DK.read
    rw [if_pos ⟨by omega, by omega⟩, if_neg (by rw [c.off]; simp)]
    simp
  have hin : (d.now.getD k []).length = 32 := by simp only [List.getD, List.getElem?_eq_getElem hk, Option.getD_some]; exact h _ (List.getElem_mem hk)
  have hs : (secOf all k ++ (d.now.getD k []).drop (secOf all k).length).length = 32 := by
    rw [List.length_append, List.length_drop, hin, secOf_len]; omega
  unfold putK
  rw [hr, if_pos rfl]
  simp only
  have hb : d.burns = (d, true) := burns_calm c.off c.fuse
  unfold DK.write
  rw [if_pos ⟨⟨by omega, by omega⟩, hs⟩, hb]
  exact ⟨rfl, c.off, c.fuse⟩
theorem putN_calm {all : List UInt8} : ∀ (n : Nat) {d : DK} {k : Nat}, (∀ x ∈ d.now, x.length = 32) → k + n ≤ d.now.length → Calm d → (putN 0 all d k n).2 = 0 ∧ Calm (putN 0 all d k n).1 := by
  intro n
  induction n with
  | zero => intro d k _ _ c; exact ⟨rfl, c⟩
  | succ n ih =>
    intro d k h hk c
    have h1 := putK_of (all := all) h (k := k) (by omega)
    obtain ⟨h2, h3⟩ := putK_calm (all := all) h (k := k) (by omega) c
    unfold putN
    rw [if_pos h2]
    exact ih h1.rows (by rw [h1.len]; omega) h3
theorem putN_l (lo : Nat) (all : List UInt8) : ∀ (n : Nat) (d : DK) (k : Nat), (putN lo all d k n).1.l.length ≤ d.l.length + n := by
  intro n
  induction n with
  | zero => intro d k; simp [putN]
  | succ n ih =>
    intro d k
    have h := putK_l d lo all k
    unfold putN
    split
    · have := ih (putK d lo all k).1 (k + 1); omega
    · omega
/-! ### records -/
def fr (t : Int) (l : List (List UInt8)) : List UInt8 := (l.map (frameB t)).flatten
theorem fr_append (t : Int) (a b : List (List UInt8)) : fr t (a ++ b) = fr t a ++ fr t b := by simp [fr]
theorem fr_cons (t : Int) (a : List UInt8) (b : List (List UInt8)) : fr t (a :: b) = frameB t a ++ fr t b := by simp [fr]
theorem fr_len (t : Int) (l : List (List UInt8)) : (fr t l).length = usedOf l := by
  induction l with
  | nil => rfl
  | cons a l ih => rw [fr_cons, List.length_append, ih, frameB_len]; simp [usedOf]
def Recs (l : List (List UInt8)) : Prop := ∀ s ∈ l, s ≠ [] ∧ s.length ≤ 1024
theorem frame_rec {t : Int} (ht : turnOk t = true) {s : List UInt8} (h : s ≠ [] ∧ s.length ≤ 1024) : frame t s = (frameB t s, 0) := by
  unfold frame; rw [if_pos ⟨ht, h⟩]
theorem addRun_fits {t room : Int} (ht : turnOk t = true) : ∀ (l : List (List UInt8)) (b : List UInt8), Recs l → (b.length : Int) + (usedOf l : Nat) ≤ room → addRun t room l b false = (0, b ++ fr t l, false) := by
  intro l
  induction l with
  | nil => intro b _ _; simp [addRun, fr]
  | cons s l ih =>
    intro b h hl
    have hs := frame_rec ht (h s (by simp))
    have hu : usedOf (s :: l) = 10 + s.length + usedOf l := by simp [usedOf]
    rw [hu] at hl
    have hfl := frameB_len t s
    rw [addRun_cons, hs, if_pos rfl, if_neg (by simp; omega), ih _ (fun x hx => h x (by simp [hx])) (by rw [List.length_append]; simp only; omega), fr_cons]
    simp
/-- a record's bytes in front: it is scanned -/
theorem scanL_frame {t : Int} (ht : turnOk t = true) {s : List UInt8} (h : s ≠ [] ∧ s.length ≤ 1024) (r : List UInt8) : nextOk t (frameB t s ++ r) = true ∧ recOf (frameB t s ++ r) = s ∧ lenAt (frameB t s ++ r) = s.length := by
  have hl := frameB_len t s
  have hla := lenAt_frame t s h.2
  have hs : s.length ≠ 0 := by simpa using h.1
  have hgd : ∀ i, i < (frameB t s).length → (frameB t s ++ r).getD i 0 = (frameB t s).getD i 0 := by
    intro i hi
    simp only [List.getD_eq_getElem?_getD]
    rw [List.getElem?_append_left hi]
  have hla2 : lenAt (frameB t s ++ r) = s.length := by
    rw [← hla]
    unfold lenAt
    rw [hgd 4 (by omega), hgd 5 (by omega)]
  have hrec : recOf (frameB t s ++ r) = s := by
    unfold recOf
    rw [hla2, List.drop_append_of_le_length (by omega), List.take_append_of_le_length (by rw [List.length_drop]; omega)]
    have : (frameB t s).drop 10 = s := by
      unfold frameB
      rw [List.drop_left' (by simp [headOf_len, put4_len])]
    rw [this, List.take_length]
  refine ⟨?_, hrec, hla2⟩
  refine (next_frame t _).2 ⟨by rw [List.length_append]; omega, by omega, by omega, by rw [List.length_append]; omega, ?_⟩
  rw [hrec, hla2, frame_rec ht h, List.take_append_of_le_length (by omega), List.take_of_length_le (by omega)]
theorem scanL_fuel (t : Int) : ∀ (n m : Nat) (s : List UInt8), s.length ≤ n → s.length ≤ m → scanL t n s = scanL t m s := by
  intro n
  induction n with
  | zero =>
    intro m s h _
    have : s = [] := List.length_eq_zero_iff.1 (by omega)
    subst this
    cases m with
    | zero => rfl
    | succ m => unfold scanL; rw [if_neg (by simp [nextOk])]
  | succ n ih =>
    intro m s h1 h2
    cases m with
    | zero =>
      have : s = [] := List.length_eq_zero_iff.1 (by omega)
      subst this
      unfold scanL; rw [if_neg (by simp [nextOk])]
    | succ m =>
      unfold scanL
      split
      · rw [ih m _ (by rw [List.length_drop]; omega) (by rw [List.length_drop]; omega)]
      · rfl
theorem scan_fr {t : Int} (ht : turnOk t = true) : ∀ (l : List (List UInt8)) (r : List UInt8), Recs l → scan t (fr t l ++ r) = l ++ scan t r := by
  intro l
  induction l with
  | nil => intro r _; rfl
  | cons s l ih =>
    intro r h
    have hs := h s (by simp)
    obtain ⟨h1, h2, h3⟩ := scanL_frame ht hs (fr t l ++ r)
    have hl := frameB_len t s
    have hi := ih r fun x hx => h x (by simp [hx])
    have key : scan t (frameB t s ++ (fr t l ++ r)) = s :: scan t (fr t l ++ r) := by
      unfold scan
      obtain ⟨n, hn⟩ : ∃ n, (frameB t s ++ (fr t l ++ r)).length = n + 1 := ⟨(frameB t s ++ (fr t l ++ r)).length - 1, by rw [List.length_append]; omega⟩
      have hn' : (fr t l ++ r).length ≤ n := by rw [List.length_append] at hn; omega
      rw [hn]
      conv => lhs; unfold scanL
      rw [if_pos h1, h2, h3, List.drop_left' hl, scanL_fuel t n _ _ hn' (Nat.le_refl _)]
    rw [fr_cons, List.append_assoc, key, hi]
    rfl
end Go.Proofs

/- Layer 4: a log on a disk of the call's own; Add on a calm disk. -/
set_option linter.unusedVariables false
set_option linter.unusedSimpArgs false
namespace Go.Proofs
open Go Go.Q
/-- a log at 'a' on a disk at 'b', both of the call's own -/
structure OL (w0 w : World) (a b : Nat) (g : LG) (d : DK) (B : List Nat) : Prop where
  ex : ∃ S SL lv, B = a :: (SL ++ S) ∧ DiskAt w b d S ∧ LogIs w a b g SL lv ∧ a ∉ S ∧ ∀ x ∈ SL, x ∉ S
  kp : Kp [] w0 w
  new : ∀ x ∈ B, w0.heap.size ≤ x
theorem DiskAt.live {w : World} {b : Nat} {d : DK} {S : List Nat} (h : DiskAt w b d S) : ∀ x ∈ S, x < w.heap.size := by
  obtain ⟨bs, bn, lv, SL, T, Ts, Tn, rfl, hd⟩ := h
  exact hd.live
theorem DiskAt.ok {w : World} {b : Nat} {d : DK} {S : List Nat} (h : DiskAt w b d S) : d.Ok := by
  obtain ⟨bs, bn, lv, SL, T, Ts, Tn, rfl, hd⟩ := h
  exact hd.ok
section
variable {w0 w w' : World} {a b : Nat} {g : LG} {d : DK} {B : List Nat}
theorem OL.live (h : OL w0 w a b g d B) : ∀ x ∈ B, x < w.heap.size := by
  obtain ⟨S, SL, lv, rfl, hd, hL, h1, h2⟩ := h.ex
  intro x hx
  rcases List.mem_cons.1 hx with rfl | hx
  · exact lt_of_blk hL.1
  · rcases List.mem_append.1 hx with hx | hx
    · exact hL.2.1.lt x hx
    · exact hd.live x hx
theorem OL.keep (h : OL w0 w a b g d B) {S' : List Nat} (hk : Kp S' w w') (hd : ∀ x ∈ B, x ∉ S') (h0 : Kp [] w0 w') : OL w0 w' a b g d B := by
  obtain ⟨S, SL, lv, rfl, hd', hL, h1, h2⟩ := h.ex
  exact ⟨⟨S, SL, lv, rfl, hd'.keep hk fun x hx => hd x (by simp [hx]), hL.keep hk (hd a (by simp)) fun x hx => hd x (by simp [hx]), h1, h2⟩, h0, h.new⟩
theorem OL.keep0 (h : OL w0 w a b g d B) (hk : Kp [] w w') : OL w0 w' a b g d B := h.keep hk (by simp) (h.kp.trans' hk)
theorem OL.ok (h : OL w0 w a b g d B) : d.Ok := by
  obtain ⟨S, SL, lv, rfl, hd, hL, h1, h2⟩ := h.ex
  exact hd.ok
theorem OL.turn {S' : List Nat} (h : OL w0 w a b g d B) (hk : Kp S' w w') (hS : ∀ x ∈ S', x ∈ B) : Kp [] w0 w' := h.kp.trans hk fun x hx hlt => by have := h.new x (hS x hx); omega
theorem ol_add (h : OL w0 w a b g d B) {gv : Value} {group : List (List UInt8)} {SG : List Nat} (hgv : ArgAt w gv 1 (group.map strV) SG) (hGS : ∀ x ∈ SG, x ∉ B) (hGl : ∀ x ∈ SG, x < w.heap.size) {lo hi : Nat}
    (hgl : g.l.length + group.length < 2 ^ 39) (hgs : ∀ s ∈ group, s.length < 2 ^ 62) (hlo : g.lo = (lo : Int)) (hhi : g.hi = (hi : Int)) (hlh : lo ≤ hi) (hhi2 : hi ≤ 4096) (hroom : (g.used.length : Int) ≤ 32 * (hi - lo)) (hdl : d.l.length < 2 ^ 39) {K : Value → World → Prop}
    (hK : ∀ w' B', OL w0 w' a b (addG g d group).1 (addG g d group).2.1 B' → Kp B w w' → (∀ x ∈ B', x ∈ B ∨ w.heap.size ≤ x) → K (.int .i64 (addG g d group).2.2) w') :
    callG Try.prog 36 #[.pointer (some ⟨a, 0, none⟩), gv] w K := by
  have hlv := h.live
  have hkp := h.kp
  have hnew := h.new
  obtain ⟨S, SL, lv, rfl, hd, hL, h1, h2⟩ := h.ex
  refine Add_spec (lo := lo) (hi := hi) hL hd hgv h1 h2 (fun x hx hm => hGS x hx (by simp [hm])) (fun x hx => ?_) hgl hgs hlo hhi hlh hhi2 hroom hdl fun w' g' d' e S' SL' lv' hres hL' hd' hS' hSL' hLS' haS' hk' => ?_
  · rcases List.mem_append.1 hx with hx | hx
    · exact hlv x (by simpa using Or.inr (by simpa using hx))
    · exact hGl x hx
  · have e1 : (addG g d group).1 = g' := by rw [← hres]
    have e2 : (addG g d group).2.1 = d' := by rw [← hres]
    have e3 : (addG g d group).2.2 = e := by rw [← hres]
    rw [e1, e2, e3] at hK
    have hsz := hkp.size
    refine hK w' (a :: (SL' ++ S')) ⟨⟨S', SL', lv', rfl, hd', hL', haS', hLS'⟩, hkp.trans hk' fun x hx hlt => by have := hnew x hx; omega, fun x hx => ?_⟩ hk' (fun x hx => ?_)
    · rcases List.mem_cons.1 hx with rfl | hx
      · exact hnew _ (by simp)
      · rcases List.mem_append.1 hx with hx | hx
        · rcases hSL' x hx with h | h
          · exact hnew x (by simp [h])
          · omega
        · rcases hS' x hx with h | h
          · exact hnew x (by simp [h])
          · omega
    · rcases List.mem_cons.1 hx with rfl | hx
      · exact .inl (by simp)
      · rcases List.mem_append.1 hx with hx | hx
        · exact (hSL' x hx).imp (fun h => by simp [h]) id
        · exact (hS' x hx).imp (fun h => by simp [h]) id
theorem ol_records (h : OL w0 w a b g d B) (hl : g.l.length < 2 ^ 40) {K : Value → World → Prop}
    (hK : ∀ w' v' S', RowsAt w' v' 1 (g.l.map strV) S' → Kp [] w w' → (∀ y ∈ S', w.heap.size ≤ y) → K v' w') : callG Try.prog 37 #[.pointer (some ⟨a, 0, none⟩)] w K := by
  obtain ⟨S, SL, lv, rfl, hd, hL, h1, h2⟩ := h.ex
  exact Records_spec hL hl hK
theorem ol_used (h : OL w0 w a b g d B) {K : Value → World → Prop} (hK : K (.int .i64 g.used.length) w) : callG Try.prog 38 #[.pointer (some ⟨a, 0, none⟩)] w K := by
  obtain ⟨S, SL, lv, rfl, hd, hL, h1, h2⟩ := h.ex
  exact Used_spec hL hK
theorem ol_sync (h : OL w0 w a b g d B) (hl : d.l.length < 2 ^ 40) {K : Value → World → Prop}
    (hK : ∀ w', OL w0 w' a b g d.flush.1 B → Kp B w w' → K (.int .i64 d.flush.2) w') : callG Try.prog 39 #[.pointer (some ⟨a, 0, none⟩)] w K := by
  have hT := @OL.turn w0 w
  have h' := h
  obtain ⟨S, SL, lv, rfl, hd, hL, h1, h2⟩ := h.ex
  refine Sync_spec hL hd hl fun w' hd' hk' => ?_
  have hkB : Kp (a :: (SL ++ S)) w w' := hk'.mono fun x hx _ => by simp [hx]
  exact hK w' ⟨⟨S, SL, lv, rfl, hd', hL.keep hk' h1 h2, h1, h2⟩, hT h' hkB (fun x hx => hx), h'.new⟩ hkB
theorem ol_read (h : OL w0 w a b g d B) (at_ : Int) {K : Value → World → Prop}
    (hK : K (.tuple #[.string (str (d.read at_).1), .int .i64 (d.read at_).2]) w) : callG Try.prog 17 #[.pointer (some ⟨b, 0, none⟩), .int .i64 at_] w K := by
  obtain ⟨S, SL, lv, rfl, hd, hL, h1, h2⟩ := h.ex
  exact Read_spec hd at_ hK
theorem ol_open {S : List Nat} (o : Own w0 w b d S) (hoff : d.off = false) {lo hi : Nat} (hlh : lo < hi) (hhi : hi ≤ d.now.length) {turn : Int} (ht : turnOk turn = true) {K : Value → World → Prop}
    (hK : ∀ w' a B, OL w0 w' a b ⟨lo, hi, turn, scan turn (allOf d lo (hi - lo)), (allOf d lo (hi - lo)).take (usedOf (scan turn (allOf d lo (hi - lo))))⟩ d B → Kp [] w w' → (∀ x ∈ B, x ∈ S ∨ w.heap.size ≤ x) → (∀ x ∈ S, x ∈ B) →
      K (.tuple #[.pointer (some ⟨a, 0, none⟩), .int .i64 0]) w') : callG Try.prog 35 #[.pointer (some ⟨b, 0, none⟩), .int .i64 lo, .int .i64 hi, .int .i64 turn] w K := by
  refine Open_ok o.at_ hoff hlh hhi ht fun w' a lv SL hL hk ha hSL => ?_
  have hlS := o.at_.live
  have hs := o.kp.size
  refine hK w' a (a :: (SL ++ S)) ⟨⟨S, SL, lv, rfl, o.at_.keep hk (by simp), hL, fun hm => by have := hlS a hm; omega, fun x hx hm => by have := hlS x hm; have := hSL x hx; omega⟩, o.kp.trans' hk, fun x hx => ?_⟩ hk (fun x hx => ?_) (fun x hx => by simp [hx])
  · rcases List.mem_cons.1 hx with rfl | hx
    · omega
    · rcases List.mem_append.1 hx with hx | hx
      · have := hSL x hx; omega
      · exact o.new x hx
  · rcases List.mem_cons.1 hx with rfl | hx
    · exact .inr ha
    · rcases List.mem_append.1 hx with hx | hx
      · exact .inr (hSL x hx)
      · exact .inl hx
end
/-- a log on a calm disk of noughts, that has such records -/
structure GS (n : Nat) (g : LG) (d : DK) (l : List (List UInt8)) : Prop where
  g : g = ⟨0, n, 1, l, fr 1 l⟩
  calm : Calm d
  len : d.now.length = n
  rows : ∀ x ∈ d.now, x.length = 32
  bytes : ∀ p, byteAt d.now p = (fr 1 l).getD p 0
theorem turn1 : turnOk 1 = true := by decide
theorem getD_app {x y : List UInt8} {p : Nat} (h : p < x.length) : (x ++ y).getD p 0 = x.getD p 0 := by
  simp only [List.getD_eq_getElem?_getD]; rw [List.getElem?_append_left h]
theorem getD_over {x : List UInt8} {p : Nat} (h : ¬ p < x.length) : x.getD p 0 = 0 := by
  rw [List.getD_eq_getElem?_getD, List.getElem?_eq_none (by omega)]; rfl
theorem addG_gs {n : Nat} {g : LG} {d : DK} {l grp : List (List UInt8)} (h : GS n g d l) (hr : Recs grp) (hu : usedOf l + usedOf grp ≤ 32 * n) :
    (addG g d grp).2.2 = 0 ∧ GS n (addG g d grp).1 (addG g d grp).2.1 (l ++ grp) ∧ (addG g d grp).2.1.l.length ≤ d.l.length + (n + 1) := by
  have hg := h.g
  have hul : (fr 1 l).length = usedOf l := fr_len 1 l
  have hug : (fr 1 grp).length = usedOf grp := fr_len 1 grp
  have hroom : roomOf g = 32 * (n : Int) - (usedOf l : Nat) := by rw [hg]; unfold roomOf; simp only [hul]; omega
  have ht : g.turn = 1 := by rw [hg]
  have hrun := addRun_fits (t := 1) (room := roomOf g) turn1 grp [] hr (by rw [hroom]; simp; omega)
  have hused : g.used = fr 1 l := by rw [hg]
  obtain ⟨P, hP⟩ : ∃ P, P = (if 0 < (fr 1 grp).length then putN 0 (fr 1 l ++ fr 1 grp) d ((fr 1 l).length / 32) (((fr 1 l ++ fr 1 grp).length + 31) / 32 - (fr 1 l).length / 32) else (d, 0)) := ⟨_, rfl⟩
  have hlo : g.lo.toNat = 0 := by rw [hg]; rfl
  have hgl : g.l = l := by rw [hg]
  have hadd : addG g d grp = if P.2 = 0 then ({ g with l := l ++ grp, used := fr 1 l ++ fr 1 grp }, P.1, 0) else (g, P.1, P.2) := by
    unfold addG
    rw [ht, hrun, hlo, hused, hgl, hP]
    simp
  have hfin : P.2 = 0 ∧ Calm P.1 ∧ P.1.now.length = n ∧ (∀ x ∈ P.1.now, x.length = 32) ∧ (∀ p, byteAt P.1.now p = (fr 1 l ++ fr 1 grp).getD p 0) ∧ P.1.l.length ≤ d.l.length + (n + 1) := by
    by_cases h0 : 0 < (fr 1 grp).length
    · rw [if_pos h0] at hP
      have hk : (fr 1 l).length / 32 + (((fr 1 l ++ fr 1 grp).length + 31) / 32 - (fr 1 l).length / 32) ≤ d.now.length := by rw [h.len, List.length_append]; omega
      have c := putN_calm (all := fr 1 l ++ fr 1 grp) _ h.rows hk h.calm
      have o := putN_of (all := fr 1 l ++ fr 1 grp) _ h.rows hk
      have hlen := putN_l 0 (fr 1 l ++ fr 1 grp) (((fr 1 l ++ fr 1 grp).length + 31) / 32 - (fr 1 l).length / 32) d ((fr 1 l).length / 32)
      rw [← hP] at c o hlen
      refine ⟨c.1, c.2, o.len.trans h.len, o.rows, fun p => ?_, by rw [List.length_append] at hlen; omega⟩
      rw [o.now c.1 p, h.bytes p]
      split
      · rfl
      · rename_i hn
        by_cases hp : p < (fr 1 l).length
        · rw [getD_app hp]
        · rw [getD_over hp, getD_over]
          rw [List.length_append] at hn ⊢
          omega
    · rw [if_neg h0] at hP
      have hnil : fr 1 grp = [] := List.length_eq_zero_iff.1 (by omega)
      rw [hP, hnil, List.append_nil]
      exact ⟨rfl, h.calm, h.len, h.rows, h.bytes, by simp only; omega⟩
  obtain ⟨f1, f2, f3, f4, f5, f6⟩ := hfin
  rw [if_pos f1] at hadd
  rw [hadd]
  exact ⟨rfl, ⟨by rw [hg, fr_append], f2, f3, f4, by rw [fr_append]; exact f5⟩, f6⟩
theorem now_eq {L M : List (List UInt8)} (h : ∀ x ∈ L, x.length = 32) (hM : ∀ x ∈ M, x.length = 32) (hl : L.length = M.length) (he : ∀ p, byteAt L p = byteAt M p) : L = M := by
  have hf := byteAt_all h hM hl he
  apply List.ext_getElem hl
  intro i h1 h2
  rw [← flat_get h h1, ← flat_get hM h2, hf]
theorem gs_now {n : Nat} {g g' : LG} {d d' : DK} {l : List (List UInt8)} (h : GS n g d l) (h' : GS n g' d' l) : d.now = d'.now :=
  now_eq h.rows h'.rows (by rw [h.len, h'.len]) fun p => by rw [h.bytes, h'.bytes]
theorem scan_zero (n : Nat) : scan 1 (List.replicate n 0) = [] := by
  unfold scan
  cases n with
  | zero => rfl
  | succ n =>
    have hl : (List.replicate (n + 1) (0 : UInt8)).length = n + 1 := by simp
    rw [hl]
    unfold scanL
    rw [if_neg]
    intro h
    obtain ⟨_, h2, _⟩ := (next_frame 1 _).1 h
    have : lenAt (List.replicate (n + 1) 0) = 0 := by
      have hz : ∀ i, (List.replicate (n + 1) (0 : UInt8)).getD i 0 = 0 := by
        intro i
        simp only [List.getD_eq_getElem?_getD, List.getElem?_replicate]
        split <;> rfl
      unfold lenAt
      rw [hz, hz]; rfl
    omega
theorem fresh_flat (n : Nat) : (secs0 n).flatten = List.replicate (32 * n) 0 := by
  induction n with
  | zero => rfl
  | succ n ih => unfold secs0 at ih ⊢; rw [List.replicate_succ, List.flatten_cons, ih, List.replicate_append_replicate]; congr 1; omega
theorem fresh_all (n : Nat) : allOf (DK.fresh n) 0 (n - 0) = List.replicate (32 * n) 0 := by
  unfold allOf DK.fresh
  simp only [List.drop_zero, Nat.sub_zero]
  rw [List.take_of_length_le (by simp [secs0]), fresh_flat]
theorem gs_fresh (n : Nat) : GS n ⟨0, n, 1, [], []⟩ (DK.fresh n) [] := by
  have hrows : ∀ x ∈ (DK.fresh n).now, x.length = 32 := by intro x hx; simp only [DK.fresh, secs0, List.mem_replicate] at hx; rw [hx.2]; simp
  refine ⟨rfl, ⟨rfl, rfl⟩, by simp [DK.fresh, secs0], hrows, fun p => ?_⟩
  rw [← byteAt_flat hrows]
  show (secs0 n).flatten.getD p 0 = ([] : List UInt8).getD p 0
  rw [fresh_flat]
  simp only [List.getD_eq_getElem?_getD, List.getElem?_replicate]
  split <;> rfl
/-- a fresh disk, and its log -/
theorem ol_new {w0 w : World} (hk0 : Kp [] w0 w) {n : Nat} (h1 : 1 ≤ n) (h2 : n ≤ 4096) {b : Nat} {S : List Nat} (o : Own w0 w b (DK.fresh n) S) {K : Value → World → Prop}
    (hK : ∀ w' a B, OL w0 w' a b ⟨0, n, 1, [], []⟩ (DK.fresh n) B → Kp [] w w' → (∀ x ∈ B, x ∈ S ∨ w.heap.size ≤ x) → (∀ x ∈ S, x ∈ B) → K (.tuple #[.pointer (some ⟨a, 0, none⟩), .int .i64 0]) w') :
    callG Try.prog 35 #[.pointer (some ⟨b, 0, none⟩), .int .i64 0, .int .i64 n, .int .i64 1] w K := by
  refine ol_open (lo := 0) (hi := n) o rfl (by omega) (by simp [DK.fresh, secs0]) turn1 fun w' a B hO hk hB hS => ?_
  rw [fresh_all, scan_zero] at hO
  exact hK w' a B hO hk hB hS
end Go.Proofs

set_option linter.unusedVariables false
set_option linter.unusedSimpArgs false
namespace Go.Proofs
open Go Go.Q
set_option maxRecDepth 100000
/-! quayside/quaysidelaw04.WalGroups -/
def law04_WalGroups_s0 (R : Value → World → Prop) (w : World) : Prop :=
  callG Try.prog 29 #[] w fun t186 w =>
  R t186 w

theorem law04_WalGroups_s0_eq (R : Value → World → Prop) : ∀ e w, lift Try.prog 187 (sub (bodyOf Try.f8) [1, 1, 1, 1, 1, 1, 1, 1, 1, 1]) (finK Try.prog Try.f8.results.toList R) e w = law04_WalGroups_s0 R w := fun e w => by kernel_rfl

def law04_WalGroups_b1 (R : Value → World → Prop) (N1 : List Value → World → Prop) (x5 x7 x15 : Value) (w : World) : Prop :=
  qG Try.prog (bq .lss 3 (.tmp 159) (.const (.int .i64 40)) x15 (.int .i64 40)) w fun t160 =>
  bV t160
  (callG Try.prog 17 #[x5, x15] w fun t166 w =>
  qG Try.prog (Instr.extract t166 0) w fun t167 =>
  qG Try.prog (Instr.extract t166 1) w fun t168 =>
  callG Try.prog 17 #[x7, x15] w fun t172 w =>
  qG Try.prog (Instr.extract t172 0) w fun t173 =>
  qG Try.prog (Instr.extract t172 1) w fun t174 =>
  qG Try.prog (bq .neq 9 (.tmp 175) (.tmp 176) t167 t173) w fun t177 =>
  bV t177
  (R (.bool false) w)
  (qG Try.prog (bq .neq 24 (.tmp 179) (.const (.int .i64 0)) t168 (.int .i64 0)) w fun t180 =>
  bV t180
  (R (.bool false) w)
  (qG Try.prog (bq .neq 24 (.tmp 183) (.const (.int .i64 0)) t174 (.int .i64 0)) w fun t184 =>
  bV t184
  (R (.bool false) w)
  (qG Try.prog (bq .add 3 (.tmp 161) (.const (.int .i64 1)) x15 (.int .i64 1)) w fun t162 =>
  N1 [x5, x7, t162] w))))
  (law04_WalGroups_s0 R  w)

theorem law04_WalGroups_b1_eq (R : Value → World → Prop) (N1 : List Value → World → Prop) : ∀ e w, lift Try.prog 187 (sub (bodyOf Try.f8) [1, 1, 1, 1, 1, 1, 1, 1, 1, 0, 1, 0, 0]) (seqK (fun e w => N1 [e 5, e 7, e 15] w) (blockK 2 (seqK (fun e w => law04_WalGroups_s0 R  w) (finK Try.prog Try.f8.results.toList R)))) e w = law04_WalGroups_b1 R N1 (e 5) (e 7) (e 15) w := fun e w => by kernel_rfl

def law04_WalGroups_L2F (R : Value → World → Prop) (N1 : List Value → World → Prop) (xs : List Value) (w : World) : Prop :=
  match xs with
  | [x5, x7, x15] => law04_WalGroups_b1 R N1 x5 x7 x15 w
  | _ => False

def law04_WalGroups_L2 (R : Value → World → Prop) (x5 x7 x15 : Value) (w : World) : Prop :=
  ∃ m, loopV (law04_WalGroups_L2F R) m [x5, x7, x15] w

theorem law04_WalGroups_L2_eq (R : Value → World → Prop) : ∀ e w, lift Try.prog 187 (sub (bodyOf Try.f8) [1, 1, 1, 1, 1, 1, 1, 1, 1, 0, 1, 0]) (blockK 2 (seqK (fun e w => law04_WalGroups_s0 R  w) (finK Try.prog Try.f8.results.toList R))) e w = law04_WalGroups_L2 R (e 5) (e 7) (e 15) w := loop_seg (F := law04_WalGroups_L2F R) (sel := fun e => [e 5, e 7, e 15]) fun N1 => (law04_WalGroups_b1_eq R N1)

def law04_WalGroups_s3 (R : Value → World → Prop) (x5 x7 : Value) (w : World) : Prop :=
  law04_WalGroups_L2 R x5 x7 (.int .i64 0) w

theorem law04_WalGroups_s3_eq (R : Value → World → Prop) : ∀ e w, lift Try.prog 187 (sub (bodyOf Try.f8) [1, 1, 1, 1, 1, 1, 1, 1, 1, 0]) (seqK (fun e w => law04_WalGroups_s0 R  w) (finK Try.prog Try.f8.results.toList R)) e w = law04_WalGroups_s3 R (e 5) (e 7) w :=
  segs_eq (l := [(sub (bodyOf Try.f8) [1, 1, 1, 1, 1, 1, 1, 1, 1, 0, 0])]) (y := (sub (bodyOf Try.f8) [1, 1, 1, 1, 1, 1, 1, 1, 1, 0, 1])) (Y := (fun e w => law04_WalGroups_L2 R (e 5) (e 7) (e 15) w)) (law04_WalGroups_L2_eq R) (fun e w => by kernel_rfl)

def law04_WalGroups_s4 (R : Value → World → Prop) (x0 x1 x5 x7 x9 x11 : Value) (w : World) : Prop :=
  qG Try.prog (bq .and 3 (.tmp 118) (.const (.int .i64 255)) x1 (.int .i64 255)) w fun t119 =>
  lenL x0 fun t121 =>
  qG Try.prog (bq .add 3 (.tmp 121) (.const (.int .i64 1)) t121 (.int .i64 1)) w fun t122 =>
  qG Try.prog (bq .rem 3 (.tmp 119) (.tmp 122) t119 t122) w fun t123 =>
  slL 1 x0 none (some t123) fun t127 =>
  callG Try.prog 36 #[x9, t127] w fun t128 w =>
  qG Try.prog (bq .neq 24 (.tmp 128) (.const (.int .i64 0)) t128 (.int .i64 0)) w fun t129 =>
  bV t129
  (R (.bool false) w)
  (slL 1 x0 (some t123) none fun t134 =>
  callG Try.prog 36 #[x9, t134] w fun t135 w =>
  qG Try.prog (bq .neq 24 (.tmp 135) (.const (.int .i64 0)) t135 (.int .i64 0)) w fun t136 =>
  bV t136
  (R (.bool false) w)
  (callG Try.prog 37 #[x9] w fun t140 w =>
  callG Try.prog 34 #[t140, x0] w fun t142 w =>
  qG Try.prog (Op.unary .not t142) w fun t143 =>
  bV t143
  (R (.bool false) w)
  (callG Try.prog 37 #[x11] w fun t147 w =>
  callG Try.prog 34 #[t147, x0] w fun t149 w =>
  qG Try.prog (Op.unary .not t149) w fun t150 =>
  bV t150
  (R (.bool false) w)
  (callG Try.prog 38 #[x9] w fun t154 w =>
  callG Try.prog 38 #[x11] w fun t156 w =>
  qG Try.prog (bq .neq 3 (.tmp 154) (.tmp 156) t154 t156) w fun t157 =>
  bV t157
  (R (.bool false) w)
  (law04_WalGroups_s3 R x5 x7 w)))))

theorem law04_WalGroups_s4_eq (R : Value → World → Prop) : ∀ e w, lift Try.prog 187 (sub (bodyOf Try.f8) [1, 1, 1, 1, 1, 1, 1]) (finK Try.prog Try.f8.results.toList R) e w = law04_WalGroups_s4 R (e 0) (e 1) (e 5) (e 7) (e 9) (e 11) w :=
  segs_eq (l := [(sub (bodyOf Try.f8) [1, 1, 1, 1, 1, 1, 1, 0]), (sub (bodyOf Try.f8) [1, 1, 1, 1, 1, 1, 1, 1, 0])]) (y := (sub (bodyOf Try.f8) [1, 1, 1, 1, 1, 1, 1, 1, 1])) (Y := (fun e w => law04_WalGroups_s3 R (e 5) (e 7) w)) (seq_seg (x := (sub (bodyOf Try.f8) [1, 1, 1, 1, 1, 1, 1, 1, 1, 0])) (y := (sub (bodyOf Try.f8) [1, 1, 1, 1, 1, 1, 1, 1, 1, 1])) (law04_WalGroups_s0_eq R) (law04_WalGroups_s3_eq R)) (fun e w => by kernel_rfl)

def law04_WalGroups_s5 (R : Value → World → Prop) (N1 : List Value → World → Prop) (x0 x1 x5 x7 x9 x11 x13 : Value) (w : World) : Prop :=
  qG Try.prog (bq .add 3 (.tmp 94) (.const (.int .i64 1)) x13 (.int .i64 1)) w fun t95 =>
  N1 [x0, x1, x5, x7, x9, x11, t95] w

theorem law04_WalGroups_s5_eq (R : Value → World → Prop) (N1 : List Value → World → Prop) : ∀ e w, lift Try.prog 187 (sub (bodyOf Try.f8) [1, 1, 1, 1, 1, 1, 0, 1, 0, 0, 1, 1]) (seqK (fun e w => N1 [e 0, e 1, e 5, e 7, e 9, e 11, e 13] w) (blockK 0 (seqK (fun e w => law04_WalGroups_s4 R (e 0) (e 1) (e 5) (e 7) (e 9) (e 11) w) (finK Try.prog Try.f8.results.toList R)))) e w = law04_WalGroups_s5 R N1 (e 0) (e 1) (e 5) (e 7) (e 9) (e 11) (e 13) w := fun e w => by kernel_rfl

def law04_WalGroups_s6 (R : Value → World → Prop) (N1 : List Value → World → Prop) (x0 x1 x5 x7 x9 x11 x13 : Value) (w : World) : Prop :=
  qG Try.prog (bq .add 3 (.tmp 113) (.const (.int .i64 1)) x13 (.int .i64 1)) w fun t114 =>
  slL 1 x0 (some x13) (some t114) fun t115 =>
  callG Try.prog 36 #[x11, t115] w fun t116 w =>
  qG Try.prog (bq .neq 24 (.tmp 116) (.const (.int .i64 0)) t116 (.int .i64 0)) w fun t117 =>
  bV t117
  (R (.bool false) w)
  (law04_WalGroups_s5 R N1 x0 x1 x5 x7 x9 x11 x13 w)

theorem law04_WalGroups_s6_eq (R : Value → World → Prop) (N1 : List Value → World → Prop) : ∀ e w, lift Try.prog 187 (sub (bodyOf Try.f8) [1, 1, 1, 1, 1, 1, 0, 1, 0, 0, 1, 0, 0, 1]) (blockK 1 (seqK (fun e w => law04_WalGroups_s5 R N1 (e 0) (e 1) (e 5) (e 7) (e 9) (e 11) (e 13) w) (seqK (fun e w => N1 [e 0, e 1, e 5, e 7, e 9, e 11, e 13] w) (blockK 0 (seqK (fun e w => law04_WalGroups_s4 R (e 0) (e 1) (e 5) (e 7) (e 9) (e 11) w) (finK Try.prog Try.f8.results.toList R)))))) e w = law04_WalGroups_s6 R N1 (e 0) (e 1) (e 5) (e 7) (e 9) (e 11) (e 13) w := fun e w => by kernel_rfl

def law04_WalGroups_s7 (R : Value → World → Prop) (N1 : List Value → World → Prop) (x0 x1 x5 x7 x9 x11 x13 : Value) (w : World) : Prop :=
  ia 1 x0 x13 fun t98 =>
  ld1 t98 w fun t99 =>
  lenS t99 fun t100 =>
  qG Try.prog (bq .gtr 3 (.tmp 100) (.const (.int .i64 60)) t100 (.int .i64 60)) w fun t101 =>
  bV t101
  (callG Try.prog 29 #[] w fun t109 w =>
  R t109 w)
  (ia 1 x0 x13 fun t105 =>
  ld1 t105 w fun t106 =>
  qG Try.prog (bq .eql 9 (.tmp 106) (.const (.string ⟨#[]⟩)) t106 (.string ⟨#[]⟩)) w fun t107 =>
  bV t107
  (callG Try.prog 29 #[] w fun t109_1 w =>
  R t109_1 w)
  (law04_WalGroups_s6 R N1 x0 x1 x5 x7 x9 x11 x13 w))

theorem law04_WalGroups_s7_eq (R : Value → World → Prop) (N1 : List Value → World → Prop) : ∀ e w, lift Try.prog 187 (sub (bodyOf Try.f8) [1, 1, 1, 1, 1, 1, 0, 1, 0, 0, 1, 0, 0]) (blockK 1 (seqK (fun e w => law04_WalGroups_s5 R N1 (e 0) (e 1) (e 5) (e 7) (e 9) (e 11) (e 13) w) (seqK (fun e w => N1 [e 0, e 1, e 5, e 7, e 9, e 11, e 13] w) (blockK 0 (seqK (fun e w => law04_WalGroups_s4 R (e 0) (e 1) (e 5) (e 7) (e 9) (e 11) w) (finK Try.prog Try.f8.results.toList R)))))) e w = law04_WalGroups_s7 R N1 (e 0) (e 1) (e 5) (e 7) (e 9) (e 11) (e 13) w :=
  segs_eq (l := [(sub (bodyOf Try.f8) [1, 1, 1, 1, 1, 1, 0, 1, 0, 0, 1, 0, 0, 0])]) (y := (sub (bodyOf Try.f8) [1, 1, 1, 1, 1, 1, 0, 1, 0, 0, 1, 0, 0, 1])) (Y := (fun e w => law04_WalGroups_s6 R N1 (e 0) (e 1) (e 5) (e 7) (e 9) (e 11) (e 13) w)) (law04_WalGroups_s6_eq R N1) (fun e w => by kernel_rfl)

def law04_WalGroups_s8 (R : Value → World → Prop) (N1 : List Value → World → Prop) (x0 x1 x5 x7 x9 x11 x13 : Value) (w : World) : Prop :=
  lenL x0 fun t92 =>
  qG Try.prog (bq .lss 3 (.tmp 90) (.tmp 92) x13 t92) w fun t93 =>
  bV t93
  (law04_WalGroups_s7 R N1 x0 x1 x5 x7 x9 x11 x13 w)
  (law04_WalGroups_s4 R x0 x1 x5 x7 x9 x11 w)

theorem law04_WalGroups_s8_eq (R : Value → World → Prop) (N1 : List Value → World → Prop) : ∀ e w, lift Try.prog 187 (sub (bodyOf Try.f8) [1, 1, 1, 1, 1, 1, 0, 1, 0, 0]) (seqK (fun e w => N1 [e 0, e 1, e 5, e 7, e 9, e 11, e 13] w) (blockK 0 (seqK (fun e w => law04_WalGroups_s4 R (e 0) (e 1) (e 5) (e 7) (e 9) (e 11) w) (finK Try.prog Try.f8.results.toList R)))) e w = law04_WalGroups_s8 R N1 (e 0) (e 1) (e 5) (e 7) (e 9) (e 11) (e 13) w :=
  segs_eq (l := [(sub (bodyOf Try.f8) [1, 1, 1, 1, 1, 1, 0, 1, 0, 0, 0])]) (y := (sub (bodyOf Try.f8) [1, 1, 1, 1, 1, 1, 0, 1, 0, 0, 1])) (Y := (fun e w => law04_WalGroups_s7 R N1 (e 0) (e 1) (e 5) (e 7) (e 9) (e 11) (e 13) w)) (seq_seg (x := (sub (bodyOf Try.f8) [1, 1, 1, 1, 1, 1, 0, 1, 0, 0, 1, 0])) (y := (sub (bodyOf Try.f8) [1, 1, 1, 1, 1, 1, 0, 1, 0, 0, 1, 1])) (law04_WalGroups_s5_eq R N1) (law04_WalGroups_s7_eq R N1)) (fun e w => by kernel_rfl)

def law04_WalGroups_L9F (R : Value → World → Prop) (N1 : List Value → World → Prop) (xs : List Value) (w : World) : Prop :=
  match xs with
  | [x0, x1, x5, x7, x9, x11, x13] => law04_WalGroups_s8 R N1 x0 x1 x5 x7 x9 x11 x13 w
  | _ => False

def law04_WalGroups_L9 (R : Value → World → Prop) (x0 x1 x5 x7 x9 x11 x13 : Value) (w : World) : Prop :=
  ∃ m, loopV (law04_WalGroups_L9F R) m [x0, x1, x5, x7, x9, x11, x13] w

theorem law04_WalGroups_L9_eq (R : Value → World → Prop) : ∀ e w, lift Try.prog 187 (sub (bodyOf Try.f8) [1, 1, 1, 1, 1, 1, 0, 1, 0]) (blockK 0 (seqK (fun e w => law04_WalGroups_s4 R (e 0) (e 1) (e 5) (e 7) (e 9) (e 11) w) (finK Try.prog Try.f8.results.toList R))) e w = law04_WalGroups_L9 R (e 0) (e 1) (e 5) (e 7) (e 9) (e 11) (e 13) w := loop_seg (F := law04_WalGroups_L9F R) (sel := fun e => [e 0, e 1, e 5, e 7, e 9, e 11, e 13]) fun N1 => (law04_WalGroups_s8_eq R N1)

def law04_WalGroups_s10 (R : Value → World → Prop) (x0 x1 x5 x7 x9 x11 : Value) (w : World) : Prop :=
  law04_WalGroups_L9 R x0 x1 x5 x7 x9 x11 (.int .i64 0) w

theorem law04_WalGroups_s10_eq (R : Value → World → Prop) : ∀ e w, lift Try.prog 187 (sub (bodyOf Try.f8) [1, 1, 1, 1, 1, 1, 0]) (seqK (fun e w => law04_WalGroups_s4 R (e 0) (e 1) (e 5) (e 7) (e 9) (e 11) w) (finK Try.prog Try.f8.results.toList R)) e w = law04_WalGroups_s10 R (e 0) (e 1) (e 5) (e 7) (e 9) (e 11) w :=
  segs_eq (l := [(sub (bodyOf Try.f8) [1, 1, 1, 1, 1, 1, 0, 0])]) (y := (sub (bodyOf Try.f8) [1, 1, 1, 1, 1, 1, 0, 1])) (Y := (fun e w => law04_WalGroups_L9 R (e 0) (e 1) (e 5) (e 7) (e 9) (e 11) (e 13) w)) (law04_WalGroups_L9_eq R) (fun e w => by kernel_rfl)

def law04_WalGroups_s11 (R : Value → World → Prop) (x0 x1 x5 x6 x7 x8 x9 x10 x11 x12 x64 : Value) (w : World) : Prop :=
  bV x64
  (qG Try.prog (bq .eql 24 (.tmp 65) (.const (.int .i64 0)) x6 (.int .i64 0)) w fun t66 =>
  bV t66
  (qG Try.prog (bq .eql 24 (.tmp 68) (.const (.int .i64 0)) x8 (.int .i64 0)) w fun t69 =>
  bV t69
  (qG Try.prog (bq .eql 24 (.tmp 72) (.const (.int .i64 0)) x10 (.int .i64 0)) w fun t73 =>
  bV t73
  (qG Try.prog (bq .eql 24 (.tmp 76) (.const (.int .i64 0)) x12 (.int .i64 0)) w fun t77 =>
  bV t77
  (qG Try.prog (bq .neq 64 (.tmp 80) (.const (.pointer none)) x9 (.pointer none)) w fun t81 =>
  bV t81
  (qG Try.prog (bq .neq 64 (.tmp 84) (.const (.pointer none)) x11 (.pointer none)) w fun t85 =>
  bV t85
  (callG Try.prog 29 #[] w fun t88 w =>
  R t88 w)
  (R (.bool false) w))
  (R (.bool false) w))
  (R (.bool false) w))
  (R (.bool false) w))
  (R (.bool false) w))
  (R (.bool false) w))
  (law04_WalGroups_s10 R x0 x1 x5 x7 x9 x11 w)

theorem law04_WalGroups_s11_eq (R : Value → World → Prop) : ∀ e w, lift Try.prog 187 (sub (bodyOf Try.f8) [1, 1, 1, 1, 1, 0, 1]) (seqK (fun e w => law04_WalGroups_s10 R (e 0) (e 1) (e 5) (e 7) (e 9) (e 11) w) (finK Try.prog Try.f8.results.toList R)) e w = law04_WalGroups_s11 R (e 0) (e 1) (e 5) (e 6) (e 7) (e 8) (e 9) (e 10) (e 11) (e 12) (e 64) w := fun e w => by kernel_rfl

def law04_WalGroups_s12 (R : Value → World → Prop) (x0 x1 x5 x6 x7 x8 x9 x10 x11 x12 : Value) (w : World) : Prop :=
  qG Try.prog (bq .neq 24 (.tmp 38) (.const (.int .i64 0)) x6 (.int .i64 0)) w fun t39 =>
  bV t39
  (law04_WalGroups_s11 R x0 x1 x5 x6 x7 x8 x9 x10 x11 x12 (.bool true) w)
  (qG Try.prog (bq .neq 24 (.tmp 41) (.const (.int .i64 0)) x8 (.int .i64 0)) w fun t42 =>
  bV t42
  (law04_WalGroups_s11 R x0 x1 x5 x6 x7 x8 x9 x10 x11 x12 (.bool true) w)
  (qG Try.prog (bq .neq 24 (.tmp 45) (.const (.int .i64 0)) x10 (.int .i64 0)) w fun t46 =>
  bV t46
  (law04_WalGroups_s11 R x0 x1 x5 x6 x7 x8 x9 x10 x11 x12 (.bool true) w)
  (qG Try.prog (bq .neq 24 (.tmp 49) (.const (.int .i64 0)) x12 (.int .i64 0)) w fun t50 =>
  bV t50
  (law04_WalGroups_s11 R x0 x1 x5 x6 x7 x8 x9 x10 x11 x12 (.bool true) w)
  (qG Try.prog (bq .eql 64 (.tmp 53) (.const (.pointer none)) x9 (.pointer none)) w fun t54 =>
  bV t54
  (law04_WalGroups_s11 R x0 x1 x5 x6 x7 x8 x9 x10 x11 x12 (.bool true) w)
  (qG Try.prog (bq .eql 64 (.tmp 57) (.const (.pointer none)) x11 (.pointer none)) w fun t58 =>
  bV t58
  (law04_WalGroups_s11 R x0 x1 x5 x6 x7 x8 x9 x10 x11 x12 (.bool true) w)
  (lenL x0 fun t62 =>
  qG Try.prog (bq .gtr 3 (.tmp 62) (.const (.int .i64 8)) t62 (.int .i64 8)) w fun t63 =>
  law04_WalGroups_s11 R x0 x1 x5 x6 x7 x8 x9 x10 x11 x12 t63 w))))))

theorem law04_WalGroups_s12_eq (R : Value → World → Prop) : ∀ e w, lift Try.prog 187 (sub (bodyOf Try.f8) [1, 1, 1, 1, 1, 0]) (seqK (fun e w => law04_WalGroups_s10 R (e 0) (e 1) (e 5) (e 7) (e 9) (e 11) w) (finK Try.prog Try.f8.results.toList R)) e w = law04_WalGroups_s12 R (e 0) (e 1) (e 5) (e 6) (e 7) (e 8) (e 9) (e 10) (e 11) (e 12) w :=
  segs_eq (l := [(sub (bodyOf Try.f8) [1, 1, 1, 1, 1, 0, 0])]) (y := (sub (bodyOf Try.f8) [1, 1, 1, 1, 1, 0, 1])) (Y := (fun e w => law04_WalGroups_s11 R (e 0) (e 1) (e 5) (e 6) (e 7) (e 8) (e 9) (e 10) (e 11) (e 12) (e 64) w)) (law04_WalGroups_s11_eq R) (fun e w => by kernel_rfl)

def law04_WalGroups_s13 (R : Value → World → Prop) (x0 x1 : Value) (w : World) : Prop :=
  callG Try.prog 12 #[(.int .i64 40)] w fun t21 w =>
  qG Try.prog (Instr.extract t21 0) w fun t22 =>
  qG Try.prog (Instr.extract t21 1) w fun t23 =>
  callG Try.prog 12 #[(.int .i64 40)] w fun t25 w =>
  qG Try.prog (Instr.extract t25 0) w fun t26 =>
  qG Try.prog (Instr.extract t25 1) w fun t27 =>
  callG Try.prog 35 #[t22, (.int .i64 0), (.int .i64 40), (.int .i64 1)] w fun t30 w =>
  qG Try.prog (Instr.extract t30 0) w fun t31 =>
  qG Try.prog (Instr.extract t30 1) w fun t32 =>
  callG Try.prog 35 #[t26, (.int .i64 0), (.int .i64 40), (.int .i64 1)] w fun t35 w =>
  qG Try.prog (Instr.extract t35 0) w fun t36 =>
  qG Try.prog (Instr.extract t35 1) w fun t37 =>
  law04_WalGroups_s12 R x0 x1 t22 t23 t26 t27 t31 t32 t36 t37 w

theorem law04_WalGroups_s13_eq (R : Value → World → Prop) : ∀ e w, lift Try.prog 187 (bodyOf Try.f8) (finK Try.prog Try.f8.results.toList R) e w = law04_WalGroups_s13 R (e 0) (e 1) w :=
  segs_eq (l := [(sub (bodyOf Try.f8) [0]), (sub (bodyOf Try.f8) [1, 0]), (sub (bodyOf Try.f8) [1, 1, 0]), (sub (bodyOf Try.f8) [1, 1, 1, 0]), (sub (bodyOf Try.f8) [1, 1, 1, 1, 0])]) (y := (sub (bodyOf Try.f8) [1, 1, 1, 1, 1])) (Y := (fun e w => law04_WalGroups_s12 R (e 0) (e 1) (e 5) (e 6) (e 7) (e 8) (e 9) (e 10) (e 11) (e 12) w)) (seq_seg (x := (sub (bodyOf Try.f8) [1, 1, 1, 1, 1, 0])) (y := (sub (bodyOf Try.f8) [1, 1, 1, 1, 1, 1])) (seq_seg (x := (sub (bodyOf Try.f8) [1, 1, 1, 1, 1, 1, 0])) (y := (sub (bodyOf Try.f8) [1, 1, 1, 1, 1, 1, 1])) (law04_WalGroups_s4_eq R) (law04_WalGroups_s10_eq R)) (law04_WalGroups_s12_eq R)) (fun e w => by kernel_rfl)

def law04_WalGroups (R : Value → World → Prop) (x0 x1 : Value) (w : World) : Prop := law04_WalGroups_s13 R x0 x1 w
theorem law04_WalGroups_call {R : Value → World → Prop} {x0 x1 : Value} {w : World} (h : law04_WalGroups R x0 x1 w) : callG Try.prog 8 #[x0, x1] w R :=
  calls_lift_eq Try.mixed Try.func8 (args := [x0, x1]) rfl rfl rfl rfl ((law04_WalGroups_s13_eq R) (envOf [x0, x1]) w) (by kernel_rfl) h
end Go.Proofs

/- WalGroups. -/
set_option linter.unusedVariables false
set_option linter.unusedSimpArgs false
namespace Go.Proofs
open Go Go.Q
theorem usedOf_append (a b : List (List UInt8)) : usedOf (a ++ b) = usedOf a + usedOf b := by simp [usedOf]
theorem usedOf_le {l : List (List UInt8)} {k : Nat} (h : ∀ s ∈ l, s.length ≤ k) : usedOf l ≤ (10 + k) * l.length := by
  induction l with
  | nil => simp [usedOf]
  | cons s l ih =>
    have h1 := ih fun x hx => h x (by simp [hx])
    have h2 := h s (by simp)
    simp only [usedOf, List.map_cons, List.sum_cons, List.length_cons] at h1 ⊢
    rw [Nat.mul_succ]; omega
theorem strV_flat (l : List (List UInt8)) : (l.map strV).flatten = l.map fun s => Value.string (str s) := by
  induction l with
  | nil => rfl
  | cons s l ih => rw [List.map_cons, List.flatten_cons, ih]; rfl
/-- two logs, apart -/
structure Two (w0 w : World) (a b a2 b2 : Nat) (g g2 : LG) (d d2 : DK) (B B2 : List Nat) : Prop where
  x : OL w0 w a b g d B
  y : OL w0 w a2 b2 g2 d2 B2
  apart : ∀ z ∈ B, z ∉ B2
section
variable {w0 : World} {a b a2 b2 : Nat} {R : Value → World → Prop} {x0 : Value} {part : Int} {l : List (List UInt8)} {SA : List Nat}
theorem Two.keep0 {w w' : World} {g g2 : LG} {d d2 : DK} {B B2 : List Nat} (t : Two w0 w a b a2 b2 g g2 d d2 B B2) (hk : Kp [] w w') : Two w0 w' a b a2 b2 g g2 d d2 B B2 := ⟨t.x.keep0 hk, t.y.keep0 hk, t.apart⟩
theorem groups_s3 (hR : ∀ w', Kp [] w0 w' → R (.bool true) w') {w : World} {g g2 : LG} {d d2 : DK} {B B2 : List Nat} (t : Two w0 w a b a2 b2 g g2 d d2 B B2) (h1 : GS 40 g d l) (h2 : GS 40 g2 d2 l) :
    law04_WalGroups_s3 R (.pointer (some ⟨b, 0, none⟩)) (.pointer (some ⟨b2, 0, none⟩)) w := by
  have hnow := gs_now h1 h2
  unfold law04_WalGroups_s3 law04_WalGroups_L2
  refine loop_inv (fun m xs wi => ∃ i, i ≤ 40 ∧ m = 40 - i ∧ xs = [.pointer (some ⟨b, 0, none⟩), .pointer (some ⟨b2, 0, none⟩), .int .i64 (i : Nat)] ∧ wi = w) ?_ (m := 40) ⟨0, by omega, rfl, rfl, rfl⟩
  rintro m N xs wi ⟨i, hi, rfl, rfl, rfl⟩ hN
  simp only [law04_WalGroups_L2F, law04_WalGroups_b1, bq_lss, bV_b]
  refine ⟨fun hlt => ?_, fun hge => ?_⟩
  · have hi : i < 40 := by simp at hlt; omega
    have hiw : IntKind.i64.wrap ((i : Int) + 1) = ((i + 1 : Nat) : Int) := by rw [w64 (by omega) (by omega)]; simp
    have r1 : d.read (i : Int) = (d.now.getD i [], 0) := by
      unfold DK.read; rw [if_pos ⟨by omega, by rw [h1.len]; omega⟩, if_neg (by rw [h1.calm.off]; simp), Int.toNat_natCast]
    have r2 : d2.read (i : Int) = (d2.now.getD i [], 0) := by
      unfold DK.read; rw [if_pos ⟨by omega, by rw [h2.len]; omega⟩, if_neg (by rw [h2.calm.off]; simp), Int.toNat_natCast]
    refine ol_read t.x _ ?_
    rw [ex0, ex1]
    refine ol_read t.y _ ?_
    rw [ex0, ex1, r1, r2, ← hnow]
    simp [-getElem?_pos, -Array.getElem?_eq_getElem, -List.length_flatten, List.getElem?_cons_zero, List.getElem?_cons_succ, hiw]
    exact hN (40 - (i + 1)) _ _ (by omega) ⟨i + 1, by omega, rfl, rfl, rfl⟩
  · unfold law04_WalGroups_s0
    exact awake4_spec fun w' hk => hR w' (t.x.kp.trans' hk)
theorem groups_s4 (hR : ∀ w', Kp [] w0 w' → R (.bool true) w') {w : World} {g g2 : LG} {d d2 : DK} {B B2 : List Nat} (t : Two w0 w a b a2 b2 g g2 d d2 B B2) (h1 : GS 40 g d []) (h2 : GS 40 g2 d2 l)
    (hx : ArgAt w0 x0 1 (l.map strV) SA) (hSA : ∀ z ∈ SA, z < w0.heap.size) (hl : l.length ≤ 8) (hr : ∀ s ∈ l, s ≠ [] ∧ s.length ≤ 60) (hd1 : d.l.length < 2 ^ 20) :
    law04_WalGroups_s4 R x0 (.int .i64 part) (.pointer (some ⟨b, 0, none⟩)) (.pointer (some ⟨b2, 0, none⟩)) (.pointer (some ⟨a, 0, none⟩)) (.pointer (some ⟨a2, 0, none⟩)) w := by
  unfold law04_WalGroups_s4
  have hx1 := hx.keep t.x.kp (by simp)
  have hm0 : 0 ≤ part % 256 := Int.emod_nonneg _ (by omega)
  have hw1 : IntKind.i64.wrap ((l.length : Int) + 1) = (l.length : Int) + 1 := w64 (by omega) (by omega)
  simp only [and255, hx1.lenL, List.length_map, bq_add, hw1]
  rw [rem_of hm0 (by omega)]
  obtain ⟨k, hk⟩ : ∃ k : Nat, part % 256 % ((l.length : Int) + 1) = (k : Int) := ⟨(part % 256 % ((l.length : Int) + 1)).toNat, by have := Int.emod_nonneg (part % 256) (show (l.length : Int) + 1 ≠ 0 by omega); omega⟩
  have hkl : k ≤ l.length := by have := Int.emod_lt_of_pos (part % 256) (show (0 : Int) < (l.length : Int) + 1 by omega); omega
  rw [hk]
  have hrecs : ∀ m : List (List UInt8), (∀ s ∈ m, s ∈ l) → Recs m := fun m hm s hs => ⟨(hr s (hm s hs)).1, by have := (hr s (hm s hs)).2; omega⟩
  have hul := usedOf_le fun s hs => (hr s hs).2
  have hsplit := usedOf_append (l.take k) (l.drop k)
  rw [List.take_append_drop] at hsplit
  obtain ⟨v1, hv1, hs1⟩ := hx1.take (p := k) (by simpa using hkl) (kd := .i64)
  rw [hs1]
  rw [← List.map_take] at hv1
  have hnew := t.x.new
  have hne : ∀ z ∈ SA, z ∉ B := fun z hz hm => by have := hSA z hz; have := hnew z hm; omega
  have hne2 : ∀ z ∈ SA, z ∉ B2 := fun z hz hm => by have := hSA z hz; have := t.y.new z hm; omega
  have hsz := t.x.kp.size
  have hg : g = ⟨0, 40, 1, [], fr 1 []⟩ := h1.g
  obtain ⟨p1, p2, p3⟩ := addG_gs h1 (hrecs (l.take k) fun s hs => List.mem_of_mem_take hs) (by have : usedOf [] = 0 := rfl; omega)
  refine ol_add t.x (lo := 0) (hi := 40) hv1 hne (fun z hz => by have := hSA z hz; omega) (by rw [hg]; simp <;> omega) (fun s hs => by have := (hr s (List.mem_of_mem_take hs)).2; omega) (by rw [hg]; try rfl) (by rw [hg]; try rfl) (by omega) (by omega) (by rw [hg]; simp [fr]) (by omega) fun w1 B1 o1 hk1 hB1 => ?_
  rw [p1]
  have y1 := t.y.keep hk1 (fun z hz hm => t.apart z hm hz) o1.kp
  have ap1 : ∀ z ∈ B1, z ∉ B2 := fun z hz hm => by
    rcases hB1 z hz with h | h
    · exact t.apart z h hm
    · have := t.y.live z hm; omega
  rw [List.nil_append] at p2
  have hx2 := hx.keep o1.kp (by simp)
  obtain ⟨v2, hv2, hs2⟩ := hx2.drop (p := k) (by simpa using hkl) (kd := .i64)
  simp [-getElem?_pos, -Array.getElem?_eq_getElem, -List.length_flatten, List.getElem?_cons_zero, List.getElem?_cons_succ, ]
  rw [hs2]
  rw [← List.map_drop] at hv2
  have hne' : ∀ z ∈ SA, z ∉ B1 := fun z hz hm => by have := hSA z hz; have := o1.new z hm; omega
  have hsz1 := o1.kp.size
  have hg1 := p2.g
  obtain ⟨q1, q2, q3⟩ := addG_gs p2 (hrecs (l.drop k) fun s hs => List.mem_of_mem_drop hs) (by omega)
  refine ol_add o1 (lo := 0) (hi := 40) hv2 hne' (fun z hz => by have := hSA z hz; omega) (by rw [hg1]; simp only [List.length_take, List.length_drop]; omega) (fun s hs => by have := (hr s (List.mem_of_mem_drop hs)).2; omega) (by rw [hg1]; try rfl) (by rw [hg1]; try rfl) (by omega) (by omega) (by rw [hg1]; simp only [fr_len]; omega) (by omega) fun w2 B3 o2 hk2 hB2 => ?_
  rw [q1]
  rw [List.take_append_drop] at q2
  have y2 := y1.keep hk2 (fun z hz hm => ap1 z hm hz) o2.kp
  have ap2 : ∀ z ∈ B3, z ∉ B2 := fun z hz hm => by
    rcases hB2 z hz with h | h
    · exact ap1 z h hm
    · have := y1.live z hm; omega
  simp [-getElem?_pos, -Array.getElem?_eq_getElem, -List.length_flatten, List.getElem?_cons_zero, List.getElem?_cons_succ, ]
  have hgl := q2.g
  have hgl2 := h2.g
  have hL2 : (addG (addG g d (l.take k)).1 (addG g d (l.take k)).2.1 (l.drop k)).1.l = l := by rw [hgl]
  refine ol_records o2 (by rw [hL2]; omega) fun w3 v3 S3 hr3 hk3 hS3 => ?_
  rw [hL2] at hr3
  have hk03 := o2.kp.trans' hk3
  refine same_spec (.inr hr3.rd) (hx.keep hk03 (by simp)) (by omega) fun w4 hk4 => ?_
  have o4 := o2.keep0 (hk3.trans' hk4)
  have y4 := y2.keep0 (hk3.trans' hk4)
  simp [-getElem?_pos, -Array.getElem?_eq_getElem, -List.length_flatten, List.getElem?_cons_zero, List.getElem?_cons_succ, ]
  have hL3 : g2.l = l := by rw [hgl2]
  refine ol_records y4 (by rw [hL3]; omega) fun w5 v5 S5 hr5 hk5 hS5 => ?_
  rw [hL3] at hr5
  refine same_spec (.inr hr5.rd) (hx.keep (y4.kp.trans' hk5) (by simp)) (by omega) fun w6 hk6 => ?_
  have o6 := o4.keep0 (hk5.trans' hk6)
  have y6 := y4.keep0 (hk5.trans' hk6)
  simp [-getElem?_pos, -Array.getElem?_eq_getElem, -List.length_flatten, List.getElem?_cons_zero, List.getElem?_cons_succ, ]
  refine ol_used o6 ?_
  refine ol_used y6 ?_
  have hu1 : (addG (addG g d (l.take k)).1 (addG g d (l.take k)).2.1 (l.drop k)).1.used.length = g2.used.length := by rw [hgl, hgl2]
  simp [-getElem?_pos, -Array.getElem?_eq_getElem, -List.length_flatten, List.getElem?_cons_zero, List.getElem?_cons_succ, hu1]
  exact groups_s3 hR ⟨o6, y6, ap2⟩ q2 h2
theorem groups_loop (hR : ∀ w', Kp [] w0 w' → R (.bool true) w') {w : World} {g g2 : LG} {d d2 : DK} {B B2 : List Nat} (t : Two w0 w a b a2 b2 g g2 d d2 B B2) (h1 : GS 40 g d []) (h2 : GS 40 g2 d2 [])
    (hx : ArgAt w0 x0 1 (l.map strV) SA) (hSA : ∀ z ∈ SA, z < w0.heap.size) (hl : l.length ≤ 8) (hd1 : d.l.length < 2 ^ 20) (hd2 : d2.l.length = 0) :
    law04_WalGroups_L9 R x0 (.int .i64 part) (.pointer (some ⟨b, 0, none⟩)) (.pointer (some ⟨b2, 0, none⟩)) (.pointer (some ⟨a, 0, none⟩)) (.pointer (some ⟨a2, 0, none⟩)) (.int .i64 0) w := by
  unfold law04_WalGroups_L9
  refine loop_inv (fun m xs wi => ∃ i g2 d2 B2, i ≤ l.length ∧ m = l.length - i ∧ xs = [x0, .int .i64 part, .pointer (some ⟨b, 0, none⟩), .pointer (some ⟨b2, 0, none⟩), .pointer (some ⟨a, 0, none⟩), .pointer (some ⟨a2, 0, none⟩), .int .i64 (i : Nat)] ∧
      Two w0 wi a b a2 b2 g g2 d d2 B B2 ∧ GS 40 g2 d2 (l.take i) ∧ d2.l.length ≤ 41 * i ∧ ∀ s ∈ l.take i, s ≠ [] ∧ s.length ≤ 60) ?_ (m := l.length) ⟨0, g2, d2, B2, by omega, rfl, rfl, t, by simpa using h2, by omega, by simp⟩
  rintro m N xs wi ⟨i, gi, di, Bi, hi, rfl, rfl, ti, hgs, hdi, hri⟩ hN
  have hxi := hx.keep ti.x.kp (by simp)
  simp only [law04_WalGroups_L9F, law04_WalGroups_s8, hxi.lenL, List.length_map, bq_lss, bV_b]
  refine ⟨fun hlt => ?_, fun hge => ?_⟩
  · have hi : i < l.length := by simpa using hlt
    have hiw : IntKind.i64.wrap ((i : Int) + 1) = ((i + 1 : Nat) : Int) := by rw [w64 (by omega) (by omega)]; simp
    obtain ⟨bl, o, T, c, fr', _, hh, hia, _, _, hc⟩ := hxi.at (i := i) (by simpa using hi)
    have hs : c[o]? = some (.string (str l[i])) := by have := hc 0 (by omega); simpa [strV] using this
    have haw : ∀ w', Kp [] w0 w' → callG Try.prog 29 #[] w' fun t w => R t w := fun w' hk => awake4_spec fun w'' hk' => hR w'' (hk.trans' hk')
    unfold law04_WalGroups_s7
    have hnil : (⟨#[]⟩ : ByteArray) = str [] := rfl
    simp [-getElem?_pos, -Array.getElem?_eq_getElem, -List.length_flatten, List.getElem?_cons_zero, List.getElem?_cons_succ, hia, hh, hs, hnil]
    refine ⟨fun _ => haw _ ti.x.kp, fun h60 => ⟨fun _ => haw _ ti.x.kp, fun hne => ?_⟩⟩
    have hg := hgs.g
    unfold law04_WalGroups_s6
    simp only [bq_add, hiw]
    obtain ⟨v1, hv1, hs1⟩ : ∃ v', ArgAt wi v' 1 ([l[i]].map strV) SA ∧ ∀ K, slL 1 x0 (some (.int .i64 i)) (some (.int .i64 ((i + 1 : Nat) : Int))) K = K v' := by
      rcases hxi with ⟨_, _, _, h⟩ | h
      · rw [List.map_eq_nil_iff] at h; rw [h] at hi; simp at hi
      · rcases h with ⟨_, h⟩ | ⟨bl, o, cap, c, T, fr, g1, g2, g3, g4, g5, g6, g7⟩
        · rw [List.map_eq_nil_iff] at h; rw [h] at hi; simp at hi
        · rw [List.length_map] at g1 g5 g6 g7
          have hcap : ¬ cap = i := by omega
          refine ⟨.slice (some ⟨bl, o + i * 1, none⟩) 1 (cap - i), .inr (.inr ⟨bl, o + i * 1, cap - i, c, T, fr, rfl, g2, g3, by simp [strV], by simp; omega, ?_, by simp; omega⟩), fun K => ?_⟩
          · rw [Nat.mul_one] at g6 ⊢
            rw [strV_flat] at g6
            simp only [List.length_map, List.length_cons, List.length_nil, List.map_cons, List.map_nil, List.flatten_cons, List.flatten_nil, strV, List.append_nil, Nat.mul_one, Nat.zero_add]
            rw [← List.drop_drop]
            have : ((c.toList.drop o).drop i).take 1 = (((c.toList.drop o).take l.length).drop i).take 1 := by
              rw [List.drop_take, List.take_take, Nat.min_eq_left (by omega)]
            rw [this, g6]
            rw [List.drop_eq_getElem_cons (by simpa using hi)]
            simp
          · rw [g1]
            have h1 : ((i : Int) + 1) ≤ cap := by omega
            simp only [slL_p, bnd_some, Int.toNat_natCast]
            have e1 : i + 1 - i = 1 := by omega
            have e2 : Option.map (fun x : Addr => x.add (i * 1)) (some ⟨bl, o, none⟩) = some ⟨bl, o + i * 1, none⟩ := by simp [add_mk]
            rw [e1, if_neg hcap, e2]
            exact propext ⟨fun h => h.2.2, fun h => ⟨⟨by omega, by omega⟩, ⟨by omega, by omega⟩, h⟩⟩
    rw [hs1]
    have hrec : Recs [l[i]] := by intro s hs; simp only [List.mem_singleton] at hs; rw [hs]; exact ⟨hne, by omega⟩
    have hut := usedOf_le fun s hs => (hri s hs).2
    have htl : (l.take i).length = i := by rw [List.length_take]; omega
    rw [htl] at hut
    have hu1 : usedOf [l[i]] = 10 + l[i].length := by simp [usedOf]
    obtain ⟨p1, p2, p3⟩ := addG_gs hgs hrec (by omega)
    have hsz := ti.x.kp.size
    refine ol_add ti.y (lo := 0) (hi := 40) hv1 (fun z hz hm => by have := hSA z hz; have := ti.y.new z hm; omega) (fun z hz => by have := hSA z hz; omega) (by rw [hg]; simp only [htl, List.length_cons, List.length_nil]; omega) (by simp <;> omega) (by rw [hg]; try rfl) (by rw [hg]; try rfl) (by omega) (by omega) (by rw [hg]; simp only [fr_len]; omega) (by omega) fun w1 B1 o1 hk1 hB1 => ?_
    rw [p1]
    unfold law04_WalGroups_s5
    simp [-getElem?_pos, -Array.getElem?_eq_getElem, -List.length_flatten, List.getElem?_cons_zero, List.getElem?_cons_succ, hiw]
    have hx1 := ti.x.keep hk1 (fun z hz => ti.apart z hz) o1.kp
    have htk : l.take i ++ [l[i]] = l.take (i + 1) := (List.take_succ_eq_append_getElem hi).symm
    rw [htk] at p2
    refine hN (l.length - (i + 1)) _ _ (by omega) ⟨i + 1, _, _, B1, by omega, rfl, rfl, ⟨hx1, o1, fun z hz hm => ?_⟩, p2, by omega, ?_⟩
    · rcases hB1 z hm with h | h
      · exact ti.apart z hz h
      · have := ti.x.live z hz; omega
    · rw [← htk]
      intro s hs
      rcases List.mem_append.1 hs with h | h
      · exact hri s h
      · simp only [List.mem_singleton] at h; rw [h]; exact ⟨hne, by omega⟩
  · have hie : i = l.length := by simp at hge; omega
    rw [hie, List.take_length] at hgs hri
    exact groups_s4 hR ti h1 hgs hx hSA hl hri hd1
theorem groups_call (hR : ∀ w', Kp [] w0 w' → R (.bool true) w') (hx : ArgAt w0 x0 1 (l.map strV) SA) (hSA : ∀ z ∈ SA, z < w0.heap.size) : callG Try.prog 8 #[x0, .int .i64 part] w0 R := by
  refine law04_WalGroups_call ?_
  simp only [law04_WalGroups, law04_WalGroups_s13]
  refine New_ok (n := 40) (by omega) (by omega) fun w1 b S1 d1 hk1 hS1 => ?_
  rw [ex0, ex1]
  refine New_ok (n := 40) (by omega) (by omega) fun w2 b2 S2 d2 hk2 hS2 => ?_
  rw [ex0, ex1]
  have hk02 := hk1.trans' hk2
  have hsz1 := hk1.size
  have hsz2 := hk2.size
  have hl1 := d1.live
  have o1 : Own w0 w2 b (DK.fresh 40) S1 := ⟨d1.keep hk2 (by simp), hk02, hS1⟩
  refine ol_new hk02 (n := 40) (by omega) (by omega) o1 fun w3 a B1 ol1 hk3 hB1 hB1' => ?_
  rw [ex0, ex1]
  have hsz3 := hk3.size
  have o2 : Own w0 w3 b2 (DK.fresh 40) S2 := ⟨d2.keep hk3 (by simp), hk02.trans' hk3, fun z hz => by have := hS2 z hz; omega⟩
  refine ol_new (hk02.trans' hk3) (n := 40) (by omega) (by omega) o2 fun w4 a2 B2 ol2 hk4 hB2 hB2' => ?_
  rw [ex0, ex1]
  have hl2 := d2.live
  have hlB1 := ol1.live
  have t : Two w0 w4 a b a2 b2 _ _ _ _ B1 B2 := ⟨ol1.keep0 hk4, ol2, fun z hz hm => by
    rcases hB2 z hm with h | h
    · have h2 := hl2 z h
      have h3 := hS2 z h
      rcases hB1 z hz with h4 | h4
      · have := hl1 z h4; omega
      · omega
    · have := hlB1 z hz; omega⟩
  have hxi := hx.keep (hk02.trans' (hk3.trans' hk4)) (by simp)
  unfold law04_WalGroups_s12
  simp [-getElem?_pos, -Array.getElem?_eq_getElem, -List.length_flatten, List.getElem?_cons_zero, List.getElem?_cons_succ, hxi.lenL]
  unfold law04_WalGroups_s11
  by_cases hl : l.length ≤ 8
  · have h8 : ¬ (8 : Int) < l.length := by omega
    simp [-getElem?_pos, -Array.getElem?_eq_getElem, -List.length_flatten, List.getElem?_cons_zero, List.getElem?_cons_succ, h8]
    exact groups_loop hR t (gs_fresh 40) (gs_fresh 40) hx hSA hl (by simp [DK.fresh]) (by simp [DK.fresh])
  · have h8 : (8 : Int) < l.length := by omega
    simp [-getElem?_pos, -Array.getElem?_eq_getElem, -List.length_flatten, List.getElem?_cons_zero, List.getElem?_cons_succ, h8]
    exact awake4_spec fun w' hk' => hR w' (t.x.kp.trans' hk')
end
end Go.Proofs

/- The document's disk, its other functions: Fuse, Read, Flush, Crash, New. -/
set_option linter.unusedVariables false
set_option linter.unusedSimpArgs false
namespace Go.Proofs
open Go Go.Q
theorem ref_Fuse {w : World} {x : Value} {d : DK} {S : List Nat} (h : RefAt w x d S) (n : Int) (hn : n < 9223372036854775808) {K : Value → World → Prop}
    (hK : ∀ w' x', RefAt w' x' { d with fuse := max n (-1) } S → Kp [] w w' → K x' w') : callG Try.prog 24 #[x, .int .i64 n] w K := by
  refine ref03_Fuse_call ?_
  obtain ⟨sv, lv, SS, SL, rfl, hs, hlg, rfl⟩ := h
  simp only [ref03_Fuse, ref03_Fuse_s0]
  refine newG2 fun a b w1 ha hb hab hba hA hB la lb hk => ?_
  have hc : Value.cells (.agg (qc sv lv d)) = qc sv lv d := rfl
  rw [hc] at hA
  simp only [qc, zc39] at hA hB
  have hsv1 := rows_one hs
  have hlv1 := rows_one hlg
  have hkb : ∀ o o', Kp [] w (setBlk (setBlk w1 a o) b o') := fun o o' => (hk.setBlk (.inr ha) _).setBlk (.inr hb) _
  simp [-getElem?_pos, -Array.getElem?_eq_getElem, -List.length_flatten, List.getElem?_cons_zero, List.getElem?_cons_succ, hA, hB, heap_self, heap_ne, hab, hba, la, lb, -Array.all_eq_true, lvS, spl4, one4, one_i, one_b, hsv1, hlv1, ext4]
  exact hK _ _ ⟨sv, lv, SS, SL, rfl, hs.keep (hkb (.cells #[sv, lv, .int .i64 (max n (-1)), .bool d.off] 39) (.cells #[sv, lv, .int .i64 (max n (-1)), .bool d.off] 39)) (by simp), hlg.keep (hkb _ _) (by simp), rfl⟩ (hkb _ _)
/-- what is read is what is sure, and what was written -/
def Syn (d : DK) : Prop := d.now = applyAll d.sure d.l
theorem apply_get {L : List (List UInt8)} {l : List (Nat × List UInt8)} {i p : Nat} (hi : i < l.length) (hp : p < L.length) :
    (applyAll L (l.take (i + 1))).getD p [] = if l[i].1 = p then l[i].2 else (applyAll L (l.take i)).getD p [] := by
  rw [List.take_succ_eq_append_getElem hi, applyAll_snoc]
  by_cases h : l[i].1 = p
  · rw [if_pos h, h]
    have : p < (applyAll L (l.take i)).length := by rw [applyAll_len]; exact hp
    simp [List.getD, this]
  · rw [if_neg h]
    simp [List.getD, List.getElem?_set_ne h]
theorem ref_Read {w : World} {x : Value} {d : DK} {S : List Nat} (h : RefAt w x d S) (ok : d.Ok) (hsyn : Syn d) (hl : d.l.length < 2 ^ 40) (at_ : Int) {K : Value → World → Prop}
    (hK : ∀ w', Kp [] w w' → K (.tuple #[.string (str (d.read at_).1), .int .i64 (d.read at_).2]) w') : callG Try.prog 21 #[x, .int .i64 at_] w K := by
  refine ref03_Read_call ?_
  obtain ⟨sv, lv, SS, SL, rfl, hs, hlg, rfl⟩ := h
  simp only [ref03_Read, ref03_Read_s5]
  have hc : Value.cells (.agg (qc sv lv d)) = qc sv lv d := rfl
  rw [newG_k, hc]
  obtain ⟨a, hae⟩ : ∃ a, a = w.heap.size := ⟨_, rfl⟩
  obtain ⟨w1, hw1⟩ : ∃ w1, w1 = w.alloc (.cells (qc sv lv d) 39) := ⟨_, rfl⟩
  have hk : Kp [] w w1 := by rw [hw1]; exact (Kp.refl [] w).alloc _
  have hA : w1.heap[a]? = some (.cells #[sv, lv, .int .i64 d.fuse, .bool d.off] 39) := by rw [hw1, hae]; exact heap_new
  rw [← hae, ← hw1]
  have hs1 := hs.keep hk (by simp)
  have hl1 := hlg.keep hk (by simp)
  have hsl : ∀ K : Value → Prop, lenL sv K = K (.int .i64 d.now.length) := by
    intro K; rw [hs1.rd.lenL]; simp [ok.len]
  have hll : ∀ K : Value → Prop, lenL lv K = K (.int .i64 d.l.length) := by
    intro K; rw [hl1.rd.lenL]; simp
  have hbad : ¬ (0 ≤ at_ ∧ at_ < d.now.length) → K (.tuple #[.string ⟨#[]⟩, .int .i64 1]) w1 := by
    intro hb; have := hK w1 hk; unfold DK.read at this; rw [if_neg hb] at this; exact this
  simp [-getElem?_pos, -Array.getElem?_eq_getElem, -List.length_flatten, List.getElem?_cons_zero, List.getElem?_cons_succ, hA, hsl]
  refine ⟨fun h0 => hbad (by omega), fun h0 => ⟨fun h1 => hbad (by omega), fun h1 => ?_⟩⟩
  have hgood : 0 ≤ at_ ∧ at_ < d.now.length := by omega
  unfold ref03_Read_s4
  unfold DK.read at hK
  simp only [hgood, and_self, if_true] at hK
  obtain ⟨p, hp⟩ : ∃ p : Nat, at_ = p := ⟨at_.toNat, by omega⟩
  subst hp
  have hp : p < d.sure.length := by rw [ok.len]; omega
  obtain ⟨bl, T, c, hbl, hheap, hia, _, _, hcell⟩ := hs1.at (i := p) (by simpa using hp)
  have hc0 : c[p]? = some (.string (str d.sure[p])) := by
    have := hcell 0 (by omega)
    simpa [strV] using this
  simp [-getElem?_pos, -Array.getElem?_eq_getElem, -List.length_flatten, List.getElem?_cons_zero, List.getElem?_cons_succ, hA, hia, hheap, hc0]
  refine ⟨fun ho => ?_, fun ho => ?_⟩
  · have := hK w1 hk
    rw [if_pos ho] at this
    exact this
  · simp only [ho] at hK
    unfold ref03_Read_s3 ref03_Read_L2
    have hc00 : d.sure[p] = (applyAll d.sure (d.l.take 0)).getD p [] := by simp [applyAll, List.getD, hp]
    refine loop_inv (fun m xs w => ∃ i, i ≤ d.l.length ∧ m = d.l.length - i ∧ xs = [.int .i64 p, .pointer (some ⟨a, 0, none⟩), .string (str ((applyAll d.sure (d.l.take i)).getD p [])), .int .i64 (i : Nat)] ∧ w = w1)
      ?_ (m := d.l.length) ⟨0, by omega, rfl, by rw [hc00]; rfl, rfl⟩
    rintro m N xs w ⟨i, hi, rfl, rfl, rfl⟩ hN
    simp only [ref03_Read_L2F, ref03_Read_b1]
    simp [-getElem?_pos, -Array.getElem?_eq_getElem, -List.length_flatten, List.getElem?_cons_zero, List.getElem?_cons_succ, hA, hll]
    refine ⟨fun hlt => ?_, fun hge => ?_⟩
    · have hiw : IntKind.i64.wrap ((i : Int) + 1) = ((i + 1 : Nat) : Int) := by rw [w64 (by omega) (by omega)]; simp
      have hin := hN (d.l.length - (i + 1)) _ w (by omega) ⟨i + 1, by omega, rfl, rfl, rfl⟩
      obtain ⟨bl2, T2, c2, hbl2, hheap2, hia2, hle2, _, hcell2⟩ := hl1.at (i := i) (by simpa using hlt)
      have h20 : c2[i * 2]? = some (.int .i64 (d.l[i].1 : Nat)) := by
        have := hcell2 0 (by omega)
        simpa [wroteV] using this
      have h21 : c2[i * 2 + 1]? = some (.string (str d.l[i].2)) := by
        have := hcell2 1 (by omega)
        simpa [wroteV] using this
      rw [apply_get hlt hp] at hin
      simp [-getElem?_pos, -Array.getElem?_eq_getElem, -List.length_flatten, List.getElem?_cons_zero, List.getElem?_cons_succ, hia2, hheap2, h20, h21, hiw]
      refine ⟨fun he => ?_, fun he => ?_⟩
      · rw [if_pos (by omega)] at hin
        exact hin
      · rw [if_neg (by omega)] at hin
        exact hin
    · have hie : i = d.l.length := by omega
      subst hie
      rw [List.take_length] 
      have := hK w hk
      unfold Syn at hsyn
      rw [hsyn] at this
      simpa [ref03_Read_s0] using this
end Go.Proofs

/- The document's disk: Flush, Crash and New. -/
set_option linter.unusedVariables false
set_option linter.unusedSimpArgs false
namespace Go.Proofs
open Go Go.Q
theorem one2p {a b : Value} (ha : one a = true) (hb : one b = true) : ∀ (i : Nat) (x : i < 2), one ([a, b] : List Value)[i] = true := by
  intro i hi
  match i, hi with
  | 0, _ => exact ha
  | 1, _ => exact hb
theorem crashL_over : ∀ (ks : List Int) (l : List (Nat × List UInt8)) (L : List (List UInt8)) (i : Nat), ks.length ≤ i → crashL (l.take i) ks L = crashL l ks L := by
  intro ks
  induction ks with
  | nil => intro l L i _; cases l <;> cases i <;> rfl
  | cons k ks ih =>
    intro l L i hi
    cases i with
    | zero => simp at hi
    | succ i =>
      cases l with
      | nil => rfl
      | cons x l => exact ih l _ i (by simpa using hi)
/-- in a loop over what was written: a struct at 'a', its list of sectors 'L' -/
structure LoopAt (w wi : World) (a b : Nat) (lv : Value) (f : Int) (o : Bool) (L : List (List UInt8)) (SS : List Nat) (sv : Value) (Si : List Nat) : Prop where
  kp : Kp [] w wi
  hA : wi.heap[a]? = some (.cells #[sv, lv, .int .i64 f, .bool o] 39)
  hB : wi.heap[b]? = some (.cells #[.slice none 0 0, .slice none 0 0, .int .i64 0, .bool false] 39)
  rows : RowsAt wi sv 1 (L.map strV) Si
  new : ∀ y ∈ Si, (y ∈ SS ∨ w.heap.size ≤ y) ∧ y ≠ a ∧ y ≠ b
theorem LoopAt.step {w wi w' : World} {a b : Nat} {lv : Value} {f : Int} {o : Bool} {L L' : List (List UInt8)} {SS : List Nat} {sv v' : Value} {Si S' : List Nat} (h : LoopAt w wi a b lv f o L SS sv Si)
    (ha : w.heap.size ≤ a) (hb : w.heap.size ≤ b) (hab : ¬ a = b) (hk : Kp [] wi w') (hr : RowsAt w' v' 1 (L'.map strV) S') (hS : ∀ y ∈ S', wi.heap.size ≤ y) :
    LoopAt w (setBlk w' a (.cells #[v', lv, .int .i64 f, .bool o] 39)) a b lv f o L' SS v' S' := by
  have hA' := hk.get h.hA (by simp)
  have hB' := hk.get h.hB (by simp)
  have l1 : a < wi.heap.size := live_of h.hA
  have l2 : b < wi.heap.size := live_of h.hB
  have hne : ∀ y ∈ S', y ≠ a ∧ y ≠ b := fun y hy => by have := hS y hy; omega
  have hka : Kp [a] w' (setBlk w' a (.cells #[v', lv, .int .i64 f, .bool o] 39)) := (Kp.refl _ w').setBlk (.inl (by simp)) _
  refine ⟨(h.kp.trans' hk).setBlk (.inr ha) _, heap_self (live_of hA'), by rw [heap_ne hab]; exact hB', hr.keep hka fun y hy => by simp; exact (hne y hy).1, fun y hy => ⟨.inr ?_, hne y hy⟩⟩
  have := hS y hy
  have := h.kp.size
  omega
theorem ref_Flush {w : World} {x : Value} {d : DK} {S : List Nat} (h : RefAt w x d S) (ok : d.Ok) (hl : d.l.length < 2 ^ 40) {K : Value → World → Prop}
    (hK : ∀ w' x' S', RefAt w' x' d.flush.1 S' → Kp [] w w' → (∀ y ∈ S', y ∈ S ∨ w.heap.size ≤ y) → K (.tuple #[x', .int .i64 d.flush.2]) w') : callG Try.prog 22 #[x] w K := by
  refine ref03_Flush_call ?_
  obtain ⟨sv, lv, SS, SL, rfl, hs, hlg, rfl⟩ := h
  simp only [ref03_Flush, ref03_Flush_s4]
  refine newG2 fun a b w1 ha hb hab hba hA hB la lb hk => ?_
  have hc : Value.cells (.agg (qc sv lv d)) = qc sv lv d := rfl
  rw [hc] at hA
  simp only [qc, zc39] at hA hB
  have hsv1 := rows_one hs
  have hlv1 := rows_one hlg
  simp [-getElem?_pos, -Array.getElem?_eq_getElem, -List.length_flatten, List.getElem?_cons_zero, List.getElem?_cons_succ, hA, ext4]
  unfold DK.flush at hK
  refine ref_burns (sv := sv) (lv := lv) (d := d) hsv1 hlv1 ⟨ok.f0, ok.f1⟩ fun w2 hk2 => ?_
  obtain ⟨b1, b2⟩ := burns_same d
  have hA2 := hk2.get hA (by simp)
  have hB2 := hk2.get hB (by simp)
  have la2 := live_of hA2
  have lb2 := live_of hB2
  have hkw2 : Kp [] w w2 := hk.trans' hk2
  cases hon : d.burns.2 with
  | false =>
    simp only [hon, Bool.false_eq_true, if_false] at hK
    have hkb2 : ∀ o o', Kp [] w (setBlk (setBlk w2 a o) b o') := fun o o' => (hkw2.setBlk (.inr ha) _).setBlk (.inr hb) _
    have := hK _ (.agg (qc sv lv d.burns.1)) (SS ++ SL) (ref_burned hs hlg (hkb2 (.cells (qc sv lv d.burns.1) 39) (.cells (qc sv lv d.burns.1) 39))) (hkb2 _ _) (fun y hy => .inl hy)
    simp only [qc] at this
    simp [-getElem?_pos, -Array.getElem?_eq_getElem, -List.length_flatten, List.getElem?_cons_zero, List.getElem?_cons_succ, qc, hA2, hB2, heap_self, heap_ne, hab, hba, la2, lb2, -Array.all_eq_true, lvS, spl4, one4, one_i, one_b, hsv1, hlv1, ext4]
    exact ⟨one4p hsv1 hlv1 rfl rfl, this⟩
  | true =>
    simp only [hon, if_true] at hK
    obtain ⟨f', hf'⟩ : ∃ f', f' = d.burns.1.fuse := ⟨_, rfl⟩
    obtain ⟨o', ho'⟩ : ∃ o', o' = d.burns.1.off := ⟨_, rfl⟩
    simp [-getElem?_pos, -Array.getElem?_eq_getElem, -List.length_flatten, List.getElem?_cons_zero, List.getElem?_cons_succ, qc, hA2, hB2, heap_self, heap_ne, hab, hba, la2, lb2, -Array.all_eq_true, lvS, spl4, one4, one_i, one_b, hsv1, hlv1, ext4]
    rw [← hf', ← ho']
    have hkw3 : Kp [] w (setBlk w2 a (.cells #[sv, lv, .int .i64 f', .bool o'] 39)) := hkw2.setBlk (.inr ha) _
    have hlt := hs.lt
    have h0 : LoopAt w (setBlk w2 a (.cells #[sv, lv, .int .i64 f', .bool o'] 39)) a b lv f' o' (applyAll d.sure (d.l.take 0)) SS sv SS :=
      ⟨hkw3, heap_self la2, by rw [heap_ne hab]; exact hB2, hs.keep hkw3 (by simp), fun y hy => ⟨.inl hy, by have := hlt y hy; omega, by have := hlt y hy; omega⟩⟩
    unfold ref03_Flush_s3 ref03_Flush_L2
    refine loop_inv (fun m xs wi => ∃ i svi Si, i ≤ d.l.length ∧ m = d.l.length - i ∧ xs = [.pointer (some ⟨a, 0, none⟩), .pointer (some ⟨b, 0, none⟩), .int .i64 (i : Nat)] ∧ LoopAt w wi a b lv f' o' (applyAll d.sure (d.l.take i)) SS svi Si)
      ?_ (m := d.l.length) ⟨0, sv, SS, by omega, rfl, rfl, h0⟩
    rintro m N xs wi ⟨i, svi, Si, hi, rfl, rfl, hL⟩ hN
    have hlgi := hlg.keep hL.kp (by simp)
    have hll : ∀ K : Value → Prop, lenL lv K = K (.int .i64 d.l.length) := by intro K; rw [hlgi.rd.lenL]; simp
    have hAi := hL.hA
    have hBi := hL.hB
    have lai := live_of hAi
    have lbi := live_of hBi
    simp only [ref03_Flush_L2F, ref03_Flush_b1]
    simp [-getElem?_pos, -Array.getElem?_eq_getElem, -List.length_flatten, List.getElem?_cons_zero, List.getElem?_cons_succ, hAi, hll]
    refine ⟨fun hlt => ?_, fun hge => ?_⟩
    · have hiw : IntKind.i64.wrap ((i : Int) + 1) = ((i + 1 : Nat) : Int) := by rw [w64 (by omega) (by omega)]; simp
      obtain ⟨bl2, T2, c2, hbl2, hheap2, hia2, hle2, _, hcell2⟩ := hlgi.at (i := i) (by simpa using hlt)
      have h20 : c2[i * 2]? = some (.int .i64 (d.l[i].1 : Nat)) := by
        have := hcell2 0 (by omega)
        simpa [wroteV] using this
      have h21 : c2[i * 2 + 1]? = some (.string (str d.l[i].2)) := by
        have := hcell2 1 (by omega)
        simpa [wroteV] using this
      simp [-getElem?_pos, -Array.getElem?_eq_getElem, -List.length_flatten, List.getElem?_cons_zero, List.getElem?_cons_succ, hia2, hheap2, h20, h21, hiw]
      have hok := ok.szl _ (List.getElem_mem hlt)
      have hlen := ok.len
      have hmost := ok.most
      refine ref_with (hL.rows.keep (Kp.refl [] wi).drew (by simp)) (p := d.l[i].1) (by rw [applyAll_len]; omega) (by rw [applyAll_len]; omega) d.l[i].2 fun v' w' S' hr' hk' hS' => ?_
      have hk'' : Kp [] wi w' := (Kp.refl [] wi).drew.trans' hk'
      have hA' := hk''.get hAi (by simp)
      have hv1 := rows_one hr'
      have hstep := hL.step ha hb hab hk'' hr' hS'
      have htk : (applyAll d.sure (d.l.take i)).set d.l[i].1 d.l[i].2 = applyAll d.sure (d.l.take (i + 1)) := by rw [List.take_succ_eq_append_getElem hlt, applyAll_snoc]
      rw [htk] at hstep
      simp [-getElem?_pos, -Array.getElem?_eq_getElem, -List.length_flatten, List.getElem?_cons_zero, List.getElem?_cons_succ, hA', hv1, live_of hA']
      exact hN (d.l.length - (i + 1)) _ _ (by omega) ⟨i + 1, v', S', by omega, rfl, rfl, hstep⟩
    · have hie : i = d.l.length := by omega
      subst hie
      have hsvi := rows_one hL.rows
      unfold ref03_Flush_s0
      have hend : ∀ o o', Kp [] w (setBlk (setBlk wi a o) b o') := fun o o' => (hL.kp.setBlk (.inr ha) _).setBlk (.inr hb) _
      have hrows := hL.rows
      rw [List.take_length] at hrows
      have hfin := hK (setBlk (setBlk wi a (.cells #[svi, .slice none 0 0, .int .i64 f', .bool o'] 39)) b (.cells #[svi, .slice none 0 0, .int .i64 f', .bool o'] 39)) (.agg #[svi, .slice none 0 0, .int .i64 f', .bool o']) (Si ++ [])
        ⟨svi, .slice none 0 0, Si, [], by rw [hf', ho']; rfl, by
          have hk66 : Kp [a, b] wi (setBlk (setBlk wi a (.cells #[svi, .slice none 0 0, .int .i64 f', .bool o'] 39)) b (.cells #[svi, .slice none 0 0, .int .i64 f', .bool o'] 39)) :=
            ((Kp.refl _ wi).setBlk (.inl (by simp)) _).setBlk (.inl (by simp)) _
          exact hrows.keep hk66 fun y hy => by have := hL.new y hy; simp; exact ⟨this.2.1, this.2.2⟩, .inl ⟨rfl, rfl, rfl⟩, rfl⟩ (hend _ _) (fun y hy => by
            have := (hL.new y (by simpa using hy)).1
            rcases this with h | h
            · exact .inl (by simp [h])
            · exact .inr h)
      simp [-getElem?_pos, -Array.getElem?_eq_getElem, -List.length_flatten, List.getElem?_cons_zero, List.getElem?_cons_succ, hAi, hBi, heap_self, heap_ne, hab, hba, lai, lbi, -Array.all_eq_true, lvS, spl4, one4, one_i, one_b, hsvi, ext4]
      exact hfin
theorem ref_Crash {w : World} {x : Value} {d : DK} {S : List Nat} (h : RefAt w x d S) (ok : d.Ok) (hl : d.l.length < 2 ^ 40) {kv : Value} {ks : List Int} {SK : List Nat} (hks : IntsAt w kv ks SK) {K : Value → World → Prop}
    (hK : ∀ w' x' S', RefAt w' x' (d.crash ks) S' → Kp [] w w' → (∀ y ∈ S', y ∈ S ∨ w.heap.size ≤ y) → K x' w') : callG Try.prog 25 #[x, kv] w K := by
  refine ref03_Crash_call ?_
  obtain ⟨sv, lv, SS, SL, rfl, hs, hlg, rfl⟩ := h
  simp only [ref03_Crash, ref03_Crash_s5]
  refine newG2 fun a b w1 ha hb hab hba hA hB la lb hk => ?_
  have hc : Value.cells (.agg (qc sv lv d)) = qc sv lv d := rfl
  rw [hc] at hA
  simp only [qc, zc39] at hA hB
  have hlv1 := rows_one hlg
  have hlt := hs.lt
  have h0 : LoopAt w w1 a b lv d.fuse d.off (crashL (d.l.take 0) ks d.sure) SS sv SS :=
    ⟨hk, hA, hB, hs.keep hk (by simp), fun y hy => ⟨.inl hy, by have := hlt y hy; omega, by have := hlt y hy; omega⟩⟩
  have hend : ∀ (i : Nat) (svi : Value) (Si : List Nat) (wi : World), LoopAt w wi a b lv d.fuse d.off (crashL (d.l.take i) ks d.sure) SS svi Si → crashL (d.l.take i) ks d.sure = crashL d.l ks d.sure →
      ref03_Crash_s0 K (.pointer (some ⟨a, 0, none⟩)) (.pointer (some ⟨b, 0, none⟩)) wi := by
    intro i svi Si wi hL he
    have hAi := hL.hA
    have hBi := hL.hB
    have lbi := live_of hBi
    have hsvi := rows_one hL.rows
    have hrows := hL.rows
    rw [he] at hrows
    have hkb : ∀ o, Kp [] w (setBlk wi b o) := fun o => hL.kp.setBlk (.inr hb) _
    have hkb' : ∀ o, Kp [b] wi (setBlk wi b o) := fun o => (Kp.refl _ wi).setBlk (.inl (by simp)) _
    have hfin := hK (setBlk wi b (.cells #[svi, .slice none 0 0, .int .i64 (-1), .bool false] 39)) (.agg #[svi, .slice none 0 0, .int .i64 (-1), .bool false]) (Si ++ [])
      ⟨svi, .slice none 0 0, Si, [], rfl, hrows.keep (hkb' _) fun y hy => by have := hL.new y hy; simp; exact this.2.2, .inl ⟨rfl, rfl, rfl⟩, rfl⟩ (hkb _) (fun y hy => by
        have := (hL.new y (by simpa using hy)).1
        rcases this with h | h
        · exact .inl (by simp [h])
        · exact .inr h)
    unfold ref03_Crash_s0
    simp [-getElem?_pos, -Array.getElem?_eq_getElem, -List.length_flatten, List.getElem?_cons_zero, List.getElem?_cons_succ, hAi, bld39 hsvi one_i]
    simp [-getElem?_pos, -Array.getElem?_eq_getElem, -List.length_flatten, List.getElem?_cons_zero, List.getElem?_cons_succ, hBi, heap_self, heap_ne, hab, hba, lbi, -Array.all_eq_true, lvS, spl4, one4, one_i, one_b, hsvi, ext4]
    exact hfin
  unfold ref03_Crash_s4 ref03_Crash_L3
  refine loop_inv (fun m xs wi => ∃ i svi Si, i ≤ d.l.length ∧ i ≤ ks.length ∧ m = d.l.length - i ∧ xs = [kv, .pointer (some ⟨a, 0, none⟩), .pointer (some ⟨b, 0, none⟩), .int .i64 (i : Nat)] ∧ LoopAt w wi a b lv d.fuse d.off (crashL (d.l.take i) ks d.sure) SS svi Si)
    ?_ (m := d.l.length) ⟨0, sv, SS, by omega, by omega, rfl, rfl, h0⟩
  rintro m N xs wi ⟨i, svi, Si, hi, hik, rfl, rfl, hL⟩ hN
  have hlgi := hlg.keep hL.kp (by simp)
  have hll : ∀ K : Value → Prop, lenL lv K = K (.int .i64 d.l.length) := by intro K; rw [hlgi.rd.lenL]; simp
  have hksi := hks.keep hL.kp (by simp)
  obtain ⟨ka, kc, hkv⟩ := hksi.len
  have hkl : ∀ K : Value → Prop, lenL kv K = K (.int .i64 ks.length) := by intro K; rw [hkv]; rfl
  have hAi := hL.hA
  have hBi := hL.hB
  have lai := live_of hAi
  simp only [ref03_Crash_L3F, ref03_Crash_s2]
  simp [-getElem?_pos, -Array.getElem?_eq_getElem, -List.length_flatten, List.getElem?_cons_zero, List.getElem?_cons_succ, hAi, hll, hkl]
  refine ⟨fun hlt => ⟨fun hkt => ?_, fun hge => ?_⟩, fun hge => ?_⟩
  · have hiw : IntKind.i64.wrap ((i : Int) + 1) = ((i + 1 : Nat) : Int) := by rw [w64 (by omega) (by omega)]; simp
    obtain ⟨bl2, T2, c2, hbl2, hheap2, hia2, hle2, hext2, hcell2⟩ := hlgi.at (i := i) (by simpa using hlt)
    obtain ⟨bk, ok', ck, Tk, frk, hbk, hkheap, hkia, hkc⟩ := hksi.at hkt
    obtain ⟨q, hq⟩ : ∃ q, q = ks.getD i 0 := ⟨_, rfl⟩
    rw [← hq] at hkc
    have hki : ks[i]? = some q := by rw [hq]; simp [List.getD, hkt]
    obtain ⟨k, hkk⟩ : ∃ k, k = (max 0 (min q 32)).toNat := ⟨_, rfl⟩
    have hkq : max 0 (min q 32) = (k : Int) := by omega
    have hk32 : k ≤ 32 := by omega
    have hokl := ok.szl _ (List.getElem_mem hlt)
    have hcok := crashL_ok (n := d.now.length) (ks := ks) (l := d.l.take i) ok.sz1 ok.len (fun x hx => ok.szl x (List.mem_of_mem_take hx))
    obtain ⟨L, hLd⟩ : ∃ L, L = crashL (d.l.take i) ks d.sure := ⟨_, rfl⟩
    rw [← hLd] at hcok hL
    have hpL : d.l[i].1 < L.length := by rw [hcok.2]; exact hokl.1
    have hsz : (L[d.l[i].1]).length = 32 := hcok.1 _ (List.getElem_mem hpL)
    have hmost := ok.most
    have hLs : crashL (d.l.take (i + 1)) ks d.sure = L.set d.l[i].1 (d.l[i].2.take k ++ (L[d.l[i].1]).drop k) := by
      rw [take_snoc hlt, crashL_snoc, ← hLd]
      have : (d.l.take i).length = i := by simp; omega
      rw [this, hki]
      simp only [crash1, ← hkk]
      congr 2
      simp [List.getD, hpL]
    -- the one that was written
    obtain ⟨w2, hw2⟩ : ∃ w2, w2 = wi.alloc (.cells #[.int .i64 (d.l[i].1 : Nat), .string (str d.l[i].2)] 97) := ⟨_, rfl⟩
    have hk2 : Kp [] wi w2 := by rw [hw2]; exact (Kp.refl [] wi).alloc _
    have hC2 : w2.heap[wi.heap.size]? = some (.cells #[.int .i64 (d.l[i].1 : Nat), .string (str d.l[i].2)] 97) := by rw [hw2]; exact heap_new
    have hA2 := hk2.get hAi (by simp)
    have hspl : ∀ x y : Value, splice #[.int .i64 0, .string ⟨#[]⟩] 0 #[x, y] = #[x, y] := fun _ _ => rfl
    have hrow : (List.map wroteV d.l)[i]'(by simpa using hlt) = [.int .i64 (d.l[i].1 : Nat), .string (str d.l[i].2)] := by simp [wroteV]
    rw [hrow] at hext2
    obtain ⟨bl3, T3, c3, hbl3, hheap3, hia3, hle3, hext3, hcell3⟩ := hL.rows.at (i := d.l[i].1) (by simpa using hpL)
    have hc30 : c3[d.l[i].1]? = some (.string (str (L[d.l[i].1]))) := by
      have := hcell3 0 (by omega)
      simpa [strV] using this
    have hheap3' := hk2.get hheap3 (by simp)
    unfold ref03_Crash_s1
    simp [-getElem?_pos, -Array.getElem?_eq_getElem, -List.length_flatten, List.getElem?_cons_zero, List.getElem?_cons_succ, hkia, hkheap, hkc, hkq, hAi, hia2, hheap2, hle2, hext2, zc97, heap_new, hspl]
    refine ⟨one2p rfl rfl, ?_⟩
    rw [← hw2]
    simp [-getElem?_pos, -Array.getElem?_eq_getElem, -List.length_flatten, List.getElem?_cons_zero, List.getElem?_cons_succ, hA2, hC2, hk32, hokl.2, hia3, hheap3', hc30, hsz, bq_sadd, str_extract]
    have ht32 : List.take 32 (L[d.l[i].1]) = L[d.l[i].1] := List.take_of_length_le (by omega)
    rw [ht32]
    refine ref_with ((hL.rows.keep hk2 (by simp)).keep (Kp.refl [] w2).drew (by simp)) (p := d.l[i].1) hpL (by omega) _ fun v' w' S' hr' hk' hS' => ?_
    have hk'' : Kp [] wi w' := hk2.trans' ((Kp.refl [] w2).drew.trans' hk')
    have hA' := hk''.get hAi (by simp)
    have hv1 := rows_one hr'
    have hs2 := hk2.size
    have hstep := hL.step ha hb hab hk'' hr' fun y hy => by
      have h := hS' y hy
      simp only [heap_drew] at h
      omega
    rw [← hLs] at hstep
    simp [-getElem?_pos, -Array.getElem?_eq_getElem, -List.length_flatten, List.getElem?_cons_zero, List.getElem?_cons_succ, hA', hv1, live_of hA', hiw]
    exact hN (d.l.length - (i + 1)) _ _ (by omega) ⟨i + 1, v', S', by omega, by omega, rfl, rfl, hstep⟩
  · exact hend i svi Si wi hL (by
exact crashL_over _ _ _ _ (by omega))
  · exact hend i svi Si wi hL (by
      have : i = d.l.length := by omega
      rw [this, List.take_length])
theorem ref_New_bad {w : World} {n : Int} (hn : n < 1 ∨ 4096 < n) {K : Value → World → Prop}
    (hK : ∀ w', Kp [] w w' → K (.tuple #[.agg #[.slice none 0 0, .slice none 0 0, .int .i64 0, .bool false], .int .i64 1]) w') : callG Try.prog 19 #[.int .i64 n] w K := by
  refine ref03_New_call ?_
  simp only [ref03_New, ref03_New_s5]
  rw [newG_k]
  obtain ⟨a, hae⟩ : ∃ a, a = w.heap.size := ⟨_, rfl⟩
  obtain ⟨w1, hw1⟩ : ∃ w1, w1 = w.alloc (.cells (zc Try.prog 39) 39) := ⟨_, rfl⟩
  have hk : Kp [] w w1 := by rw [hw1]; exact (Kp.refl [] w).alloc _
  have hA : w1.heap[a]? = some (.cells #[.slice none 0 0, .slice none 0 0, .int .i64 0, .bool false] 39) := by rw [hw1, hae, ← zc39]; exact heap_new
  rw [← hae, ← hw1]
  have la := live_of hA
  have ha : w.heap.size ≤ a := by omega
  simp only [bld39z]
  simp [-getElem?_pos, -Array.getElem?_eq_getElem, -List.length_flatten, List.getElem?_cons_zero, List.getElem?_cons_succ, hA, la, -Array.all_eq_true, lvS, spl4, one4, one_i, one_b]
  refine ⟨fun h1 => hK _ (hk.setBlk (.inr ha) _), fun h1 => ⟨fun h2 => hK _ (hk.setBlk (.inr ha) _), fun h2 => ?_⟩⟩
  exfalso; omega
theorem u32z : u8c (List.replicate 32 0) = List.replicate 32 (Value.int .u8 0) := by simp [u8c]
theorem ref_New {w : World} {n : Nat} (h1 : 1 ≤ n) (h2 : n ≤ 4096) {K : Value → World → Prop}
    (hK : ∀ w' x' S', RefAt w' x' (DK.fresh n) S' → Kp [] w w' → (∀ y ∈ S', w.heap.size ≤ y) → K (.tuple #[x', .int .i64 0]) w') : callG Try.prog 19 #[.int .i64 n] w K := by
  refine ref03_New_call ?_
  simp only [ref03_New, ref03_New_s5]
  rw [newG_k]
  obtain ⟨a, hae⟩ : ∃ a, a = w.heap.size := ⟨_, rfl⟩
  obtain ⟨w1, hw1⟩ : ∃ w1, w1 = w.alloc (.cells (zc Try.prog 39) 39) := ⟨_, rfl⟩
  have hk : Kp [] w w1 := by rw [hw1]; exact (Kp.refl [] w).alloc _
  have hA : w1.heap[a]? = some (.cells #[.slice none 0 0, .slice none 0 0, .int .i64 0, .bool false] 39) := by rw [hw1, hae, ← zc39]; exact heap_new
  rw [← hae, ← hw1]
  have la : a < w1.heap.size := live_of hA
  have ha : w.heap.size ≤ a := by omega
  have hn1 : ¬ (n : Int) < 1 := by omega
  have hn2 : ¬ (n : Int) > 4096 := by omega
  have hrep : ∀ m, rep (zc Try.prog 9) m = (List.replicate m (Value.string ⟨#[]⟩)).toArray := by
    intro m
    rw [zc9]
    exact rep_replicate (.string ⟨#[]⟩) 1 m (by omega)
  simp only [bq_lss, bq_gtr, bV_b, hn1, hn2]
  refine ⟨fun h => by simp at h, fun _ => ⟨fun h => by simp at h, fun _ => ?_⟩⟩
  unfold ref03_New_s4
  obtain ⟨o, hoe⟩ : ∃ o, o = w1.heap.size := ⟨_, rfl⟩
  obtain ⟨z, hz⟩ : ∃ z, z = Value.string (str (List.replicate 32 0)) := ⟨_, rfl⟩
  have hcells : ∀ (i : Nat), i < n → (List.replicate i z ++ List.replicate (n - i) (Value.string ⟨#[]⟩)).set i z = List.replicate (i + 1) z ++ List.replicate (n - (i + 1)) (Value.string ⟨#[]⟩) := by
    intro i hi
    have : n - i = (n - (i + 1)) + 1 := by omega
    rw [this, List.replicate_succ, List.replicate_succ']
    simp
  obtain ⟨w2, hw2⟩ : ∃ w2, w2 = w1.alloc (.cells (List.replicate n (Value.string ⟨#[]⟩)).toArray 9) := ⟨_, rfl⟩
  have hk2 : Kp [] w1 w2 := by rw [hw2]; exact (Kp.refl [] w1).alloc _
  have hO : w2.heap[o]? = some (.cells (List.replicate n (Value.string ⟨#[]⟩)).toArray 9) := by rw [hw2, hoe]; exact heap_new
  have hmk : ∀ K : Value → World → Prop, mkG 9 1 16 (zc Try.prog 9) (.int .i64 n) (.int .i64 n) w1 K = K (.slice (some ⟨o, 0, none⟩) n n) w2 := by
    intro K
    have : (0 ≤ (n : Int) ∧ (n : Int) ≤ n ∧ (16 : Int) * n ≤ 2 ^ 48 ∧ (n : Int) < 2 ^ 63) := by omega
    simp [mkG, hrep, hw2, hoe]
    intro _
    omega
  rw [hmk]
  unfold ref03_New_s3 ref03_New_L2
  have hoa : ¬ o = a := by omega
  have hko : w.heap.size ≤ o := by have := hk.size; omega
  refine loop_inv (fun m xs wi => ∃ i, i ≤ n ∧ m = n - i ∧ xs = [.int .i64 n, .pointer (some ⟨a, 0, none⟩), .slice (some ⟨o, 0, none⟩) n n, .int .i64 (i : Nat)] ∧ Kp [] w wi ∧
    wi.heap[a]? = some (.cells #[.slice none 0 0, .slice none 0 0, .int .i64 0, .bool false] 39) ∧ wi.heap[o]? = some (.cells (List.replicate i z ++ List.replicate (n - i) (Value.string ⟨#[]⟩)).toArray 9))
    ?_ (m := n) ⟨0, by omega, rfl, rfl, hk.trans' hk2, hk2.get hA (by simp), by simpa using hO⟩
  rintro m N xs wi ⟨i, hi, rfl, rfl, hki, hAi, hOi⟩ hN
  have loi : o < wi.heap.size := live_of hOi
  have lai : a < wi.heap.size := live_of hAi
  simp only [ref03_New_L2F, ref03_New_b1, bq_lss, bV_b]
  refine ⟨fun hlt => ?_, fun hge => ?_⟩
  · have hlt : i < n := by simp at hlt; omega
    have hiw : IntKind.i64.wrap ((i : Int) + 1) = ((i + 1 : Nat) : Int) := by rw [w64 (by omega) (by omega)]; simp
    have hlen : (u8c (List.replicate 32 0)).length = 32 := by simp
    have ht : List.take 32 (u8c (List.replicate 32 0)) = u8c (List.replicate 32 0) := List.take_of_length_le (by simp)
    have hb := bytesOf_u8c (List.replicate 32 0)
    obtain ⟨w3, hw3⟩ : ∃ w3, w3 = wi.alloc (.cells (u8c (List.replicate 32 0)).toArray 5) := ⟨_, rfl⟩
    have hk3 : Kp [] wi w3 := by rw [hw3]; exact (Kp.refl [] wi).alloc _
    have hm2 : ∀ K : Value → World → Prop, (mkG 5 1 1 (zc Try.prog 5) (.int .i64 32) (.int .i64 32) wi fun t w => cvBS t w fun u => K u w) = K z w3 := by
      intro K
      obtain ⟨C, hC⟩ : ∃ C, C = u8c (List.replicate 32 0) := ⟨_, rfl⟩
      rw [← hC] at hlen ht hb hw3
      simp [-getElem?_pos, -Array.getElem?_eq_getElem, -List.reduceReplicate, mkG, rep5, cvBS, heap_new, ← hC, hlen, ht, hb, hw3, hz, str]
    obtain ⟨K', hK'⟩ : ∃ K' : Value → World → Prop, K' = fun t23 w => ia 1 (.slice (some ⟨o, 0, none⟩) n n) (.int .i64 i) fun t24 => st1 t24 t23 w fun w => qG Try.prog (bq .add 3 (.tmp 18) (.const (.int .i64 1)) (.int .i64 i) (.int .i64 1)) w fun t19 => N [.int .i64 n, .pointer (some ⟨a, 0, none⟩), .slice (some ⟨o, 0, none⟩) n n, t19] w := ⟨_, rfl⟩
    have h5 := hm2 K'
    rw [hK'] at h5
    rw [h5]
    have hO3 := hk3.get hOi (by simp)
    have hA3 := hk3.get hAi (by simp)
    have hlC : (List.replicate i z ++ List.replicate (n - i) (Value.string ⟨#[]⟩)).length = n := by simp; omega
    have hset := hcells i hlt
    obtain ⟨C, hC⟩ : ∃ C, C = List.replicate i z ++ List.replicate (n - i) (Value.string ⟨#[]⟩) := ⟨_, rfl⟩
    rw [← hC] at hO3 hset hlC
    have hoz : one z = true := by rw [hz]; rfl
    have hilt : (i : Int) < n := by omega
    simp [-getElem?_pos, -Array.getElem?_eq_getElem, -List.length_flatten, List.getElem?_cons_zero, List.getElem?_cons_succ, hO3, hlC, hoz, hiw, hilt, hlt, hset]
    refine hN (n - (i + 1)) _ _ (by omega) ⟨i + 1, by omega, rfl, rfl, (hki.trans' hk3).setBlk (.inr hko) _, by rw [heap_ne hoa]; exact hA3, heap_self (live_of hO3)⟩
  · have hie : i = n := by simp at hge; omega
    subst hie
    have hkb : ∀ ob, Kp [] w (setBlk wi a ob) := fun ob => hki.setBlk (.inr ha) _
    have hfin := hK (setBlk wi a (.cells #[.slice (some ⟨o, 0, none⟩) i i, .slice none 0 0, .int .i64 (-1), .bool false] 39)) (.agg #[.slice (some ⟨o, 0, none⟩) i i, .slice none 0 0, .int .i64 (-1), .bool false]) ([o] ++ [])
      ⟨.slice (some ⟨o, 0, none⟩) i i, .slice none 0 0, [o], [], rfl, by
        have hF : ((DK.fresh i).sure.map strV).flatten = List.replicate i z := by
          have h1 : (DK.fresh i).sure.map strV = List.replicate i [z] := by simp [DK.fresh, secs0, strV, hz]
          rw [h1]; simp
        have hL : ((DK.fresh i).sure.map strV).length = i := by simp [DK.fresh, secs0]
        refine .inr ⟨o, (DK.fresh i).sure.map strV, 9, by rw [hL], rfl, ?_, by simp [strV], List.take_length, by omega⟩
        rw [heap_ne (fun h => hoa h.symm), hOi, hF]
        simp, .inl ⟨rfl, rfl, rfl⟩, rfl⟩ (hkb _) (fun y hy => by simp at hy; omega)
    simp only [ref03_New_s0, bld39 (one_sl) one_i]
    simp [-getElem?_pos, -Array.getElem?_eq_getElem, -List.length_flatten, List.getElem?_cons_zero, List.getElem?_cons_succ, hAi, heap_self, live_of hAi, -Array.all_eq_true, lvS, spl4, one4, one_i, one_b]
    exact hfin
end Go.Proofs

/- DiskPlays: both disks go on alike. -/
set_option linter.unusedVariables false
set_option linter.unusedSimpArgs false
namespace Go.Proofs
open Go Go.Q
theorem syn_write {d : DK} (h : Syn d) (at_ : Int) (s : List UInt8) : Syn (d.write at_ s).1 ∧ (d.write at_ s).1.l.length ≤ d.l.length + 1 := by
  obtain ⟨b1, b2⟩ := burns_same d
  have b3 : d.burns.1.now = d.now := by unfold DK.burns; split <;> rfl
  unfold DK.write
  split
  · split
    · refine ⟨?_, by simp⟩
      show d.now.set _ _ = applyAll d.burns.1.sure (d.l ++ _)
      rw [b1, applyAll_snoc, ← h]
    · exact ⟨by show d.burns.1.now = applyAll d.burns.1.sure d.burns.1.l; rw [b1, b2, b3]; exact h, by show d.burns.1.l.length ≤ _; rw [b2]; omega⟩
  · exact ⟨h, Nat.le_succ _⟩
theorem syn_flush {d : DK} (h : Syn d) : Syn d.flush.1 ∧ d.flush.1.l.length ≤ d.l.length := by
  obtain ⟨b1, b2⟩ := burns_same d
  have b3 : d.burns.1.now = d.now := by unfold DK.burns; split <;> rfl
  unfold DK.flush
  split
  · exact ⟨by show d.burns.1.now = applyAll (applyAll d.sure d.l) []; rw [b3, h]; rfl, by simp⟩
  · exact ⟨by show d.burns.1.now = applyAll d.burns.1.sure d.burns.1.l; rw [b1, b2, b3]; exact h, by show d.burns.1.l.length ≤ _; rw [b2]; omega⟩
theorem syn_crash (d : DK) (ks : List Int) : Syn (d.crash ks) ∧ (d.crash ks).l.length = 0 := ⟨rfl, rfl⟩
/-- both disks, the document's in a variable at 'a' -/
structure PlayAt (w0 w : World) (b a : Nat) (d : DK) (S SR : List Nat) (sv lv : Value) : Prop where
  own : Own w0 w b d S
  ref : RefAt w (.agg (qc sv lv d)) d SR
  var : w.heap[a]? = some (.cells (qc sv lv d) 39)
  apart : ∀ y ∈ SR, y ∉ S
  aS : a ∉ S
  aR : a ∉ SR
  a0 : w0.heap.size ≤ a
  syn : Syn d
theorem RefAt.lt {w : World} {x : Value} {d : DK} {S : List Nat} (h : RefAt w x d S) : ∀ y ∈ S, y < w.heap.size := by
  obtain ⟨sv, lv, SS, SL, h1, h2, h3, rfl⟩ := h
  intro y hy
  rcases List.mem_append.1 hy with h | h
  · exact h2.lt y h
  · exact h3.lt y h
theorem RefAt.form {w : World} {x : Value} {d : DK} {S : List Nat} (h : RefAt w x d S) : ∃ sv lv, x = .agg (qc sv lv d) ∧ one sv = true ∧ one lv = true := by
  obtain ⟨sv, lv, SS, SL, h1, h2, h3, rfl⟩ := h
  exact ⟨sv, lv, h1, rows_one h2, rows_one h3⟩
theorem PlayAt.keep {w0 w w' : World} {b a : Nat} {d : DK} {S SR : List Nat} {sv lv : Value} (h : PlayAt w0 w b a d S SR sv lv) (hk : Kp [] w w') : PlayAt w0 w' b a d S SR sv lv :=
  ⟨h.own.keep hk, h.ref.keep hk (by simp), hk.get h.var (by simp), h.apart, h.aS, h.aR, h.a0, h.syn⟩
/-- a call of the disk, then one of the document's, whose disk is laid into the variable -/
theorem PlayAt.next {w0 w w1 w2 : World} {b a : Nat} {d d' : DK} {S SR S' SR' : List Nat} {sv lv sv' lv' : Value} (h : PlayAt w0 w b a d S SR sv lv) (o : Own w0 w1 b d' S') (hk : Kp S w w1) (hS : ∀ y ∈ S', y ∈ S ∨ w.heap.size ≤ y)
    (r : RefAt w2 (.agg (qc sv' lv' d')) d' SR') (hk2 : Kp [] w1 w2) (hR : ∀ y ∈ SR', y ∈ SR ∨ w1.heap.size ≤ y) (hs : Syn d') : PlayAt w0 (setBlk w2 a (.cells (qc sv' lv' d') 39)) b a d' S' SR' sv' lv' := by
  have ha : a < w.heap.size := lt_of_blk h.var
  have hsz := hk.size
  have hsz2 := hk2.size
  have hSa : a ∉ S' := fun hm => by rcases hS a hm with h1 | h1; exact h.aS h1; omega
  have hRa : a ∉ SR' := fun hm => by rcases hR a hm with h1 | h1; exact h.aR h1; omega
  have hka : Kp [a] w2 (setBlk w2 a (.cells (qc sv' lv' d') 39)) := (Kp.refl _ w2).setBlk (.inl (by simp)) _
  have hA2 : a < w2.heap.size := by omega
  refine ⟨⟨(o.at_.keep hk2 (by simp)).keep hka fun y hy => by simp; intro hh; exact hSa (hh ▸ hy), (o.kp.trans' hk2).setBlk (.inr h.a0) _, o.new⟩,
    r.keep hka fun y hy => by simp; intro hh; exact hRa (hh ▸ hy), heap_self hA2, ?_, hSa, hRa, h.a0, hs⟩
  intro y hy hyS
  have hlS : y < w1.heap.size := by
    obtain ⟨bs, bn, lv, SL, T, Ts, Tn, rfl, hd⟩ := o.at_
    exact hd.live y hyS
  rcases hR y hy with h1 | h1
  · rcases hS y hyS with h2 | h2
    · exact h.apart y h1 h2
    · have := h.ref.lt y h1; omega
  · omega
/-- a call that came in -/
structure ActIs (w : World) (r : List Value) (kind at_ : Int) (c : UInt8) (s : List UInt8) (kv : Value) (ks : List Int) (SK : List Nat) : Prop where
  row : r = [.int .i64 kind, .int .i64 at_, .int .u8 c.toNat, .string (str s), kv]
  hk : IntsAt w kv ks SK
  lt : ∀ x ∈ SK, x < w.heap.size
  at64 : at_ < 9223372036854775808
  ks64 : ∀ x ∈ ks, -9223372036854775808 ≤ x ∧ x < 9223372036854775808
theorem zc43 : zc Try.prog 43 = #[.int .i64 0, .int .i64 0, .int .u8 0, .string ⟨#[]⟩, .slice none 0 0] := by kernel_rfl
section
variable {w0 : World} {b a : Nat} {R : Value → World → Prop} {N : List Value → World → Prop} {x1 : Value} {i : Nat}
/-- what is asked behind each call -/
theorem plays_tail (hR : ∀ w', Kp [] w0 w' → R (.bool true) w') (hi : i < 80) {w : World} {d : DK} {S SR : List Nat} {sv lv : Value} (p : PlayAt w0 w b a d S SR sv lv) (g : Int)
    (hN : ∀ w' , PlayAt w0 w' b a d S SR sv lv → N [x1, .pointer (some ⟨b, 0, none⟩), .pointer (some ⟨a, 0, none⟩), .int .i64 ((i + 1 : Nat) : Int)] w') :
    law03_DiskPlays_s2 R N x1 (.pointer (some ⟨b, 0, none⟩)) (.pointer (some ⟨a, 0, none⟩)) (.int .i64 i) (.int .i64 g) (.int .i64 g) w := by
  have hiw : IntKind.i64.wrap ((i : Int) + 1) = ((i + 1 : Nat) : Int) := by rw [w64 (by omega) (by omega)]; simp
  have p1 := p.keep (Kp.refl [] w).drew
  have hv := p1.var
  simp only [qc] at hv
  obtain ⟨sv', lv', SS, SL, hx, hs, hl, _⟩ := p1.ref
  obtain ⟨rfl, rfl⟩ : sv = sv' ∧ lv = lv' := by simpa [qc] using hx
  have hll : ∀ K : Value → Prop, lenL lv K = K (.int .i64 d.l.length) := by intro K; rw [hl.rd.lenL]; simp
  have ok : d.Ok := by obtain ⟨bs, bn, lv, SL, T, Ts, Tn, rfl, hd⟩ := p1.own.at_; exact hd.ok
  have hsl : ∀ K : Value → Prop, lenL sv K = K (.int .i64 d.now.length) := by intro K; rw [hs.rd.lenL]; simp [ok.len]
  unfold law03_DiskPlays_s2
  simp only [heap_drew] at hv
  simp [-getElem?_pos, -Array.getElem?_eq_getElem, -List.length_flatten, List.getElem?_cons_zero, List.getElem?_cons_succ, hv]
  refine Off_spec p1.own.at_ ?_
  simp [-getElem?_pos, -Array.getElem?_eq_getElem, -List.length_flatten, List.getElem?_cons_zero, List.getElem?_cons_succ, hv, hll]
  refine Waits_spec p1.own.at_ ?_
  simp [-getElem?_pos, -Array.getElem?_eq_getElem, -List.length_flatten, List.getElem?_cons_zero, List.getElem?_cons_succ, hv, hll, hsl]
  refine Size_spec p1.own.at_ ?_
  simp [-getElem?_pos, -Array.getElem?_eq_getElem, -List.length_flatten, List.getElem?_cons_zero, List.getElem?_cons_succ, hv, hsl, law03_DiskPlays_s1, hiw]
  exact hN _ p1
theorem st_var {w : World} {sv lv : Value} {d : DK} {old : Array Value} (hv : w.heap[a]? = some (.cells old 39)) (hs : old.size = 4) (h1 : one sv = true) (h2 : one lv = true) {K : World → Prop} :
    stn 4 (.pointer (some ⟨a, 0, none⟩)) (.agg (qc sv lv d)) w K = K (setBlk w a (.cells (qc sv lv d) 39)) := by
  have hall : (qc sv lv d).all Q.one = true := by rw [qc, one4, h1, h2]; rfl
  have hsz : (qc sv lv d).size = 4 := rfl
  rw [stn_p, wrN_mk, hv]
  have hsp : splice old 0 (qc sv lv d) = qc sv lv d := splice_all (by rw [hs, hsz])
  apply propext
  constructor
  · rintro ⟨_, _, hk⟩
    rw [hsp] at hk
    exact hk
  · intro hk
    refine ⟨hsz, ⟨by omega, by rw [okFr0]; trivial, hall⟩, ?_⟩
    rw [hsp]; exact hk
theorem ld_var {w : World} {sv lv : Value} {d : DK} (hv : w.heap[a]? = some (.cells (qc sv lv d) 39)) {K : Value → Prop} : ldn 4 (.pointer (some ⟨a, 0, none⟩)) w K = K (.agg (qc sv lv d)) := by
  have hsz : (qc sv lv d).size = 4 := rfl
  rw [ldn_p, rdN_mk, hv]
  have : (qc sv lv d).extract 0 (0 + 4) = qc sv lv d := rfl
  simp only [this, hsz]
  simp
theorem PlayAt.ok {w : World} {d : DK} {S SR : List Nat} {sv lv : Value} (p : PlayAt w0 w b a d S SR sv lv) : d.Ok := by
  obtain ⟨bs, bn, lv, SL, T, Ts, Tn, rfl, hd⟩ := p.own.at_; exact hd.ok
theorem plays_s3 (hR : ∀ w', Kp [] w0 w' → R (.bool true) w') (hi : i < 80) {w : World} {d : DK} {S SR : List Nat} {sv lv : Value} (p : PlayAt w0 w b a d S SR sv lv) (hl : d.l.length ≤ i)
    {ac : Nat} {kind at_ : Int} {c : Value} {s : Value} {kv : Value} (hac : w.heap[ac]? = some (.cells #[.int .i64 kind, .int .i64 at_, c, s, kv] 43)) (hacS : ac ∉ S)
    (hN : ∀ w' d' S' SR' sv' lv', PlayAt w0 w' b a d' S' SR' sv' lv' → d'.l.length ≤ i + 1 → N [x1, .pointer (some ⟨b, 0, none⟩), .pointer (some ⟨a, 0, none⟩), .int .i64 ((i + 1 : Nat) : Int)] w') (s' : List UInt8) :
    law03_DiskPlays_s3 R N x1 (.pointer (some ⟨b, 0, none⟩)) (.pointer (some ⟨a, 0, none⟩)) (.int .i64 i) (.pointer (some ⟨ac, 0, none⟩)) (.string (str s')) w := by
  unfold law03_DiskPlays_s3
  simp [-getElem?_pos, -Array.getElem?_eq_getElem, -List.length_flatten, List.getElem?_cons_zero, List.getElem?_cons_succ, hac, -ldn_p, -stn_p]
  refine own_write p.own (by omega) at_ s' fun w1 S1 o1 hk1 hS1 => ?_
  have hac1 := hk1.get hac hacS
  have hv1 := hk1.get p.var p.aS
  rw [ld_var hv1]
  simp [-getElem?_pos, -Array.getElem?_eq_getElem, -List.length_flatten, List.getElem?_cons_zero, List.getElem?_cons_succ, hac1, -stn_p]
  refine ref_Write (p.ref.keep hk1 p.apart) p.ok (by omega) at_ s' fun w2 x' SR' r' hk2 hR2 => ?_
  have hv2 := hk2.get hv1 (by simp)
  obtain ⟨sv', lv', rfl, h1, h2⟩ := r'.form
  rw [ex0, ex1, st_var hv2 rfl h1 h2]
  obtain ⟨hs1, hs2⟩ := syn_write p.syn at_ s'
  have p' := p.next o1 hk1 hS1 r' hk2 hR2 hs1
  exact plays_tail hR hi p' _ fun w' hp => hN w' _ _ _ _ _ hp (by omega)
theorem str_nil : (⟨#[]⟩ : ByteArray) = str [] := rfl
theorem str_inj {x y : List UInt8} : (str x = str y) = (x = y) := by
  apply propext
  constructor
  · intro h
    have := congrArg (fun b : ByteArray => b.data.toList) h
    simpa [str] using this
  · intro h; rw [h]
theorem plays_s8 (hR : ∀ w', Kp [] w0 w' → R (.bool true) w') (hi : i < 80) {w : World} {d : DK} {S SR : List Nat} {sv lv : Value} (p : PlayAt w0 w b a d S SR sv lv) (hl : d.l.length ≤ i)
    {r : List Value} {ac : Nat} {kind at_ : Int} {c : UInt8} {s : List UInt8} {kv : Value} {ks : List Int} {SK : List Nat} (act : ActIs w0 r kind at_ c s kv ks SK) (hac : w.heap[ac]? = some (.cells #[.int .i64 kind, .int .i64 at_, .int .u8 c.toNat, .string (str s), kv] 43)) (hacS : ac ∉ S)
    (hN : ∀ w' d' S' SR' sv' lv', PlayAt w0 w' b a d' S' SR' sv' lv' → d'.l.length ≤ i + 1 → N [x1, .pointer (some ⟨b, 0, none⟩), .pointer (some ⟨a, 0, none⟩), .int .i64 ((i + 1 : Nat) : Int)] w') :
    law03_DiskPlays_s8 R N x1 (.pointer (some ⟨b, 0, none⟩)) (.pointer (some ⟨a, 0, none⟩)) (.int .i64 i) (.pointer (some ⟨ac, 0, none⟩)) (.int .i64 0) (.int .i64 0) w := by
  have hks := act.hk.keep p.own.kp (by simp)
  have hdis : ∀ x ∈ SK, x ∉ S := fun x hx hxS => by have := act.lt x hx; have := p.own.new x hxS; omega
  unfold law03_DiskPlays_s8
  simp [-getElem?_pos, -Array.getElem?_eq_getElem, -List.length_flatten, List.getElem?_cons_zero, List.getElem?_cons_succ, hac, law03_DiskPlays_s7, law03_DiskPlays_s6]
  refine ⟨fun h1 => ?_, fun h1 => ?_⟩
  · unfold law03_DiskPlays_s4
    simp [-getElem?_pos, -Array.getElem?_eq_getElem, -List.length_flatten, List.getElem?_cons_zero, List.getElem?_cons_succ, hac, str_nil, str_inj]
    refine ⟨fun he => ?_, fun he => plays_s3 hR hi p hl hac hacS hN s⟩
    refine filled_spec c fun w1 hk1 => ?_
    exact plays_s3 hR hi (p.keep hk1) hl (hk1.get hac (by simp)) hacS hN _
  · unfold law03_DiskPlays_s5
    simp [-getElem?_pos, -Array.getElem?_eq_getElem, -List.length_flatten, List.getElem?_cons_zero, List.getElem?_cons_succ, hac, -ldn_p, -stn_p]
    refine ⟨fun h2 => ?_, fun h2 => ⟨fun h3 => ?_, fun h3 => ⟨fun h4 => ?_, fun h4 => ?_⟩⟩⟩
    · refine Read_spec p.own.at_ at_ ?_
      rw [ex0, ex1, ld_var p.var]
      simp [-getElem?_pos, -Array.getElem?_eq_getElem, -List.length_flatten, List.getElem?_cons_zero, List.getElem?_cons_succ, hac]
      refine ref_Read p.ref p.ok p.syn (by omega) at_ fun w1 hk1 => ?_
      simp [-getElem?_pos, -Array.getElem?_eq_getElem, -List.length_flatten, List.getElem?_cons_zero, List.getElem?_cons_succ, ]
      exact plays_tail hR hi (p.keep hk1) _ fun w' hp => hN w' _ _ _ _ _ hp (by omega)
    · refine own_flush p.own (by omega) fun w1 o1 hk1 => ?_
      have hv1 := hk1.get p.var p.aS
      rw [ld_var hv1]
      refine ref_Flush (p.ref.keep hk1 p.apart) p.ok (by omega) fun w2 x' SR' r' hk2 hR2 => ?_
      have hv2 := hk2.get hv1 (by simp)
      obtain ⟨sv', lv', rfl, h1, h2⟩ := r'.form
      rw [ex0, ex1, st_var hv2 rfl h1 h2]
      obtain ⟨hs1, hs2⟩ := syn_flush p.syn
      have p' := p.next o1 hk1 (fun _ h => .inl h) r' hk2 hR2 hs1
      exact plays_tail hR hi p' _ fun w' hp => hN w' _ _ _ _ _ hp (by omega)
    · refine own_fuse p.own at_ act.at64 fun w1 o1 hk1 => ?_
      have hac1 := hk1.get hac hacS
      have hv1 := hk1.get p.var p.aS
      rw [ld_var hv1]
      simp [-getElem?_pos, -Array.getElem?_eq_getElem, -List.length_flatten, List.getElem?_cons_zero, List.getElem?_cons_succ, hac1, -stn_p]
      refine ref_Fuse (p.ref.keep hk1 p.apart) at_ act.at64 fun w2 x' r' hk2 => ?_
      have hv2 := hk2.get hv1 (by simp)
      obtain ⟨sv', lv', rfl, h1, h2⟩ := r'.form
      rw [st_var hv2 rfl h1 h2]
      have p' := p.next o1 hk1 (fun _ h => .inl h) r' hk2 (fun _ h => .inl h) (show Syn _ from p.syn)
      exact plays_tail hR hi p' _ fun w' hp => hN w' _ _ _ _ _ hp (show d.l.length ≤ i + 1 by omega)
    · refine own_crash p.own (by omega) hks hdis act.ks64 fun w1 o1 hk1 => ?_
      have hac1 := hk1.get hac hacS
      have hv1 := hk1.get p.var p.aS
      rw [ld_var hv1]
      simp [-getElem?_pos, -Array.getElem?_eq_getElem, -List.length_flatten, List.getElem?_cons_zero, List.getElem?_cons_succ, hac1, -stn_p]
      refine ref_Crash (p.ref.keep hk1 p.apart) p.ok (by omega) (hks.keep hk1 hdis) fun w2 x' SR' r' hk2 hR2 => ?_
      have hv2 := hk2.get hv1 (by simp)
      obtain ⟨sv', lv', rfl, h1, h2⟩ := r'.form
      rw [st_var hv2 rfl h1 h2]
      obtain ⟨hs1, hs2⟩ := syn_crash d ks
      have p' := p.next o1 hk1 (fun _ h => .inl h) r' hk2 hR2 hs1
      exact plays_tail hR hi p' _ fun w' hp => hN w' _ _ _ _ _ hp (by omega)
/-- what is told of the calls that came in -/
def ActsAt (w : World) (v : Value) (rows : List (List Value)) (SA : List Nat) : Prop :=
  ArgAt w v 5 rows SA ∧ (∀ x ∈ SA, x < w.heap.size) ∧ ∀ r ∈ rows, ∃ kind at_ c s kv ks SK, ActIs w r kind at_ c s kv ks SK
theorem plays_loop (hR : ∀ w', Kp [] w0 w' → R (.bool true) w') {rows : List (List Value)} {SA : List Nat} (acts : ActsAt w0 x1 rows SA) {w : World} {d : DK} {S SR : List Nat} {sv lv : Value} (p : PlayAt w0 w b a d S SR sv lv) (hl : d.l.length = 0) :
    law03_DiskPlays_L11 R x1 (.pointer (some ⟨b, 0, none⟩)) (.pointer (some ⟨a, 0, none⟩)) (.int .i64 0) w := by
  unfold law03_DiskPlays_L11
  refine loop_inv (fun m xs w => ∃ (i : Nat) (d : DK) (S SR : List Nat) (sv lv : Value), i ≤ 80 ∧ m = 80 - i ∧ xs = [x1, .pointer (some ⟨b, 0, none⟩), .pointer (some ⟨a, 0, none⟩), .int .i64 (i : Nat)] ∧ PlayAt w0 w b a d S SR sv lv ∧ d.l.length ≤ i)
    ?_ (m := 80) ⟨0, d, S, SR, sv, lv, by omega, rfl, rfl, p, by omega⟩
  rintro m N xs w ⟨i, d, S, SR, sv, lv, hi, rfl, rfl, p, hl⟩ hN
  obtain ⟨harg, hlt, hrow⟩ := acts
  have hend : ∀ w', Kp [] w0 w' → law03_DiskPlays_s0 R w' := fun w' hk => by
    unfold law03_DiskPlays_s0
    exact awake_spec fun w'' hk' => hR w'' (hk.trans' hk')
  have harg' := harg.keep p.own.kp (by simp)
  simp only [law03_DiskPlays_L11F, law03_DiskPlays_s10, harg'.lenL, bq_lss, bV_b]
  refine ⟨fun h1 => ⟨fun h2 => ?_, fun _ => hend _ p.own.kp⟩, fun _ => hend _ p.own.kp⟩
  have h1 : i < rows.length := by simpa using h1
  have h2 : i < 80 := by simp at h2; omega
  obtain ⟨kind, at_, c, s, kv, ks, SK, act⟩ := hrow _ (List.getElem_mem h1)
  obtain ⟨bl, o, T, cs, fr, hbl, hheap, hia, hle, hext, hcell⟩ := harg'.at h1
  rw [act.row] at hext
  obtain ⟨w1, hw1⟩ : ∃ w1, w1 = w.alloc (.cells #[.int .i64 kind, .int .i64 at_, .int .u8 c.toNat, .string (str s), kv] 43) := ⟨_, rfl⟩
  have hk1 : Kp [] w w1 := by rw [hw1]; exact (Kp.refl [] w).alloc _
  obtain ⟨ac, hac⟩ : ∃ ac, ac = w.heap.size := ⟨_, rfl⟩
  have hA : w1.heap[ac]? = some (.cells #[.int .i64 kind, .int .i64 at_, .int .u8 c.toNat, .string (str s), kv] 43) := by rw [hw1, hac]; exact heap_new
  have hacS : ac ∉ S := fun hm => by
    have : ac < w.heap.size := by
      obtain ⟨bs, bn, lv, SL, T, Ts, Tn, rfl, hd⟩ := p.own.at_
      exact hd.live ac hm
    omega
  have hkv1 : Q.one kv = true := by
    obtain ⟨ka, kc, hkv⟩ := act.hk.len
    rw [hkv]; rfl
  have hspl : splice #[.int .i64 0, .int .i64 0, .int .u8 0, .string ⟨#[]⟩, .slice none 0 0] 0 #[.int .i64 kind, .int .i64 at_, .int .u8 c.toNat, .string (str s), kv] = #[.int .i64 kind, .int .i64 at_, .int .u8 c.toNat, .string (str s), kv] := rfl
  have hall : ∀ (i : Nat) (x : i < 5), Q.one ([Value.int .i64 kind, .int .i64 at_, .int .u8 c.toNat, .string (str s), kv] : List Value)[i] = true := by
    intro i hi
    match i, hi with
    | 0, _ => rfl
    | 1, _ => rfl
    | 2, _ => rfl
    | 3, _ => rfl
    | 4, _ => exact hkv1
  unfold law03_DiskPlays_s9
  simp [-getElem?_pos, -Array.getElem?_eq_getElem, -List.length_flatten, List.getElem?_cons_zero, List.getElem?_cons_succ, hia, hheap, hle, hext, zc43, heap_new, hspl]
  rw [← hw1, ← hac]
  refine ⟨hall, fun _ => awake_spec fun w' hk' => hR w' ((p.own.kp.trans' hk1).trans' hk'), fun _ => ?_⟩
  exact plays_s8 hR h2 (p.keep hk1) hl act hA hacS fun w' d' S' SR' sv' lv' p' hl' => hN (80 - (i + 1)) _ _ (by omega) ⟨i + 1, d', S', SR', sv', lv', by omega, rfl, rfl, p', hl'⟩
theorem plays_call {n : Int} (hR : ∀ w', Kp [] w0 w' → R (.bool true) w') {rows : List (List Value)} {SA : List Nat} (acts : ActsAt w0 x1 rows SA) : callG Try.prog 4 #[.int .i64 n, x1] w0 R := by
  refine law03_DiskPlays_call ?_
  simp only [law03_DiskPlays, law03_DiskPlays_s14]
  by_cases hn : n < 1 ∨ 4096 < n
  · refine New_bad (by omega) ?_
    simp [-getElem?_pos, -Array.getElem?_eq_getElem, -List.length_flatten, List.getElem?_cons_zero, List.getElem?_cons_succ, -newG_k, -stn_p]
    have hk1 : Kp [] w0 w0 := Kp.refl _ _
    refine ref_New_bad hn fun w2 hk2 => ?_
    rw [ex0, ex1, newG_k]
    obtain ⟨w3, hw3⟩ : ∃ w3, w3 = w2.alloc (.cells (zc Try.prog 39) 39) := ⟨_, rfl⟩
    have hk3 : Kp [] w2 w3 := by rw [hw3]; exact (Kp.refl [] w2).alloc _
    have hA : w3.heap[w2.heap.size]? = some (.cells (zc Try.prog 39) 39) := by rw [hw3]; exact heap_new
    have hlt : w2.heap.size < w3.heap.size := lt_of_blk hA
    rw [← hw3]
    have hq : (#[.slice none 0 0, .slice none 0 0, .int .i64 0, .bool false] : Array Value) = qc (.slice none 0 0) (.slice none 0 0) { sure := [], now := [], l := [], fuse := 0, off := false } := rfl
    rw [hq, st_var hA (by rw [zc39]; rfl) rfl rfl]
    have hk4 : Kp [] w0 (setBlk w3 w2.heap.size (.cells (qc (.slice none 0 0) (.slice none 0 0) { sure := [], now := [], l := [], fuse := 0, off := false }) 39)) :=
      ((hk1.trans' hk2).trans' hk3).setBlk (.inr (by have := (hk1.trans' hk2).size; exact this)) _
    simp [-getElem?_pos, -Array.getElem?_eq_getElem, -List.length_flatten, List.getElem?_cons_zero, List.getElem?_cons_succ, law03_DiskPlays_s13]
    exact awake_spec fun w' hk' => hR w' (hk4.trans' hk')
  · obtain ⟨m, rfl⟩ : ∃ m : Nat, n = m := ⟨n.toNat, by omega⟩
    refine own_new (n := m) (Kp.refl [] w0) (by omega) (by omega) fun w1 b S o1 hk1 => ?_
    simp [-getElem?_pos, -Array.getElem?_eq_getElem, -List.length_flatten, List.getElem?_cons_zero, List.getElem?_cons_succ, -newG_k, -stn_p]
    refine ref_New (n := m) (by omega) (by omega) fun w2 x' SR r2 hk2 hSR => ?_
    rw [ex0, ex1, newG_k]
    obtain ⟨w3, hw3⟩ : ∃ w3, w3 = w2.alloc (.cells (zc Try.prog 39) 39) := ⟨_, rfl⟩
    have hk3 : Kp [] w2 w3 := by rw [hw3]; exact (Kp.refl [] w2).alloc _
    have hA : w3.heap[w2.heap.size]? = some (.cells (zc Try.prog 39) 39) := by rw [hw3]; exact heap_new
    have hlt : w2.heap.size < w3.heap.size := lt_of_blk hA
    rw [← hw3]
    obtain ⟨sv, lv, rfl, h1, h2⟩ := r2.form
    rw [st_var hA (by rw [zc39]; rfl) h1 h2]
    obtain ⟨a, ha⟩ : ∃ a, a = w2.heap.size := ⟨_, rfl⟩
    rw [← ha] at hA hlt ⊢
    have hs1 := o1.kp.size
    have hs2 := hk2.size
    have hka : Kp [a] w3 (setBlk w3 a (.cells (qc sv lv (DK.fresh m)) 39)) := (Kp.refl _ w3).setBlk (.inl (by simp)) _
    have hSlt : ∀ y ∈ S, y < w1.heap.size := fun y hy => by
      obtain ⟨bs, bn, lv, SL, T, Ts, Tn, rfl, hd⟩ := o1.at_
      exact hd.live y hy
    have hkk : Kp [] w1 w3 := hk2.trans' hk3
    have p : PlayAt w0 (setBlk w3 a (.cells (qc sv lv (DK.fresh m)) 39)) b a (DK.fresh m) S SR sv lv :=
      ⟨⟨(o1.at_.keep hkk (by simp)).keep hka fun y hy => by have := hSlt y hy; simp; omega, (o1.kp.trans' hkk).setBlk (.inr (by omega)) _, o1.new⟩,
        (r2.keep hk3 (by simp)).keep hka fun y hy => by have := r2.lt y hy; simp; omega, heap_self hlt, fun y hy hyS => by have := hSR y hy; have := hSlt y hyS; omega,
        fun hm => by have := hSlt a hm; omega, fun hm => by have := r2.lt a hm; omega, by omega, rfl⟩
    simp [-getElem?_pos, -Array.getElem?_eq_getElem, -List.length_flatten, List.getElem?_cons_zero, List.getElem?_cons_succ, law03_DiskPlays_s13]
    refine ⟨fun _ => awake_spec fun w' hk' => hR w' (p.own.kp.trans' hk'), fun _ => ?_⟩
    unfold law03_DiskPlays_s12
    exact plays_loop hR acts p rfl
end
end Go.Proofs

/- Plain: what a power failure leaves of a log. -/
set_option linter.unusedVariables false
set_option linter.unusedSimpArgs false
namespace Go.Proofs
open Go Go.Q
/-- whatever survives begins so -/
structure CW (d : DK) (P : List UInt8) : Prop where
  sure : ∀ p, p < P.length → byteAt d.sure p = P.getD p 0
  wr : ∀ x ∈ d.l, ∀ j, j < 32 → 32 * x.1 + j < P.length → x.2.getD j 0 = P.getD (32 * x.1 + j) 0
theorem take_app_getD {m s : List UInt8} {k j : Nat} (hm : m.length = 32) (hs : s.length = 32) (hk : k ≤ 32) : (m.take k ++ s.drop k).getD j 0 = if j < k then m.getD j 0 else s.getD j 0 := by
  simp only [List.getD_eq_getElem?_getD]
  by_cases h : j < k
  · rw [if_pos h, List.getElem?_append_left (by rw [List.length_take]; omega), List.getElem?_take_of_lt h]
  · rw [if_neg h, List.getElem?_append_right (by rw [List.length_take]; omega), List.getElem?_drop, List.length_take]
    congr 2; omega
theorem crashL_rows {n : Nat} : ∀ {l : List (Nat × List UInt8)} {ks : List Int} {L : List (List UInt8)}, L.length = n → (∀ x ∈ L, x.length = 32) → (∀ x ∈ l, x.1 < n ∧ x.2.length = 32) →
    (crashL l ks L).length = n ∧ ∀ x ∈ crashL l ks L, x.length = 32 := by
  intro l
  induction l with
  | nil => intro ks L hn hL _; exact ⟨hn, hL⟩
  | cons x l ih =>
    intro ks L hn hL hl
    cases ks with
    | nil => exact ⟨hn, hL⟩
    | cons k ks =>
      obtain ⟨h1, h2⟩ := hl x (by simp)
      have hx : (L.getD x.1 []).length = 32 := by
        simp only [List.getD, List.getElem?_eq_getElem (show x.1 < L.length by omega), Option.getD_some]; exact hL _ (List.getElem_mem _)
      refine ih (by simpa using hn) (fun y hy => ?_) fun y hy => hl y (by simp [hy])
      rcases List.mem_or_eq_of_mem_set hy with h | h
      · exact hL y h
      · rw [h, List.length_append, List.length_take, List.length_drop, h2, hx]; omega
theorem crashL_pre {n : Nat} {P : List UInt8} : ∀ {l : List (Nat × List UInt8)} {ks : List Int} {L : List (List UInt8)}, L.length = n → (∀ x ∈ L, x.length = 32) → (∀ x ∈ l, x.1 < n ∧ x.2.length = 32) →
    (∀ p, p < P.length → byteAt L p = P.getD p 0) → (∀ x ∈ l, ∀ j, j < 32 → 32 * x.1 + j < P.length → x.2.getD j 0 = P.getD (32 * x.1 + j) 0) → ∀ p, p < P.length → byteAt (crashL l ks L) p = P.getD p 0 := by
  intro l
  induction l with
  | nil => intro ks L _ _ _ h _; exact h
  | cons x l ih =>
    intro ks L hn hL hl hp hw
    cases ks with
    | nil => exact hp
    | cons k ks =>
      obtain ⟨h1, h2⟩ := hl x (by simp)
      have hx : (L.getD x.1 []).length = 32 := by
        simp only [List.getD, List.getElem?_eq_getElem (show x.1 < L.length by omega), Option.getD_some]; exact hL _ (List.getElem_mem _)
      refine ih (by simpa using hn) (fun y hy => ?_) (fun y hy => hl y (by simp [hy])) (fun p hlt => ?_) fun y hy => hw y (by simp [hy])
      · rcases List.mem_or_eq_of_mem_set hy with h | h
        · exact hL y h
        · rw [h, List.length_append, List.length_take, List.length_drop, h2, hx]; omega
      · rw [byteAt_set (by omega)]
        by_cases hk : p / 32 = x.1
        · rw [if_pos hk, take_app_getD h2 hx (by omega)]
          have e : 32 * x.1 + p % 32 = p := by omega
          split
          · rw [hw x (by simp) (p % 32) (by omega) (by omega), e]
          · have := hp p hlt
            unfold byteAt at this
            rw [hk] at this
            exact this
        · rw [if_neg hk]
          exact hp p hlt
theorem CW.crash {d : DK} {P : List UInt8} (h : CW d P) (ok : d.Ok) (ks : List Int) : ∀ p, p < P.length → byteAt (d.crash ks).now p = P.getD p 0 :=
  crashL_pre (n := d.now.length) ok.len ok.sz1 ok.szl h.sure h.wr
theorem CW.put {d : DK} {P all : List UInt8} (h : CW d P) (hp : ∃ r, all = P ++ r) {k n : Nat} {r : DK × Int} (o : PutOf all d k n r) : CW r.1 P := by
  obtain ⟨q, rfl⟩ := hp
  refine ⟨fun p hp => by rw [o.sure]; exact h.sure p hp, fun x hx j hj hlt => ?_⟩
  rcases o.wr x hx with h1 | h1
  · exact h.wr x h1 j hj hlt
  · rw [h1 j hj (by rw [List.length_append]; omega), getD_app hlt]
theorem putK_syn {d : DK} (h : Syn d) (lo : Nat) (all : List UInt8) (k : Nat) : Syn (putK d lo all k).1 := by
  unfold putK
  split
  · exact (syn_write h _ _).1
  · exact h
theorem putN_syn (lo : Nat) (all : List UInt8) : ∀ (n : Nat) {d : DK} {k : Nat}, Syn d → Syn (putN lo all d k n).1 := by
  intro n
  induction n with
  | zero => intro d k h; exact h
  | succ n ih =>
    intro d k h
    unfold putN
    split
    · exact ih (putK_syn h lo all k)
    · exact putK_syn h lo all k
/-- a log on a disk, some of whose records are sure -/
structure CS (g : LG) (d : DK) (l : List (List UInt8)) (n : Nat) : Prop where
  g : g = ⟨0, 40, 1, l, fr 1 l⟩
  len : d.now.length = 40
  now : ∀ p, p < (fr 1 l).length → byteAt d.now p = (fr 1 l).getD p 0
  syn : Syn d
  cw : CW d (fr 1 (l.take n))
  n : n ≤ l.length
theorem fr_take (t : Int) (l : List (List UInt8)) (n : Nat) : fr t l = fr t (l.take n) ++ fr t (l.drop n) := by rw [← fr_append, List.take_append_drop]
/-- one record more -/
theorem cs_add {g : LG} {d : DK} {l : List (List UInt8)} {n : Nat} (h : CS g d l n) (ok : d.Ok) {s : List UInt8} (hs : s ≠ [] ∧ s.length ≤ 1024) (hlen : (fr 1 l).length ≤ 1280) :
    ((addG g d [s]).2.2 = 0 → CS (addG g d [s]).1 (addG g d [s]).2.1 (l ++ [s]) n ∧ (fr 1 (l ++ [s])).length ≤ 1280) ∧ CW (addG g d [s]).2.1 (fr 1 (l.take n)) ∧ (addG g d [s]).2.1.l.length ≤ d.l.length + 42 ∧ (addG g d [s]).2.1.now.length = 40 := by
  have hg := h.g
  have hroom : roomOf g = 1280 - ((fr 1 l).length : Int) := by rw [hg]; unfold roomOf; simp only; omega
  have ht : g.turn = 1 := by rw [hg]
  have hused : g.used = fr 1 l := by rw [hg]
  have hlo : g.lo.toNat = 0 := by rw [hg]; rfl
  have hgl : g.l = l := by rw [hg]
  have hfb := frameB_len 1 s
  have hf1 : fr 1 [s] = frameB 1 s := by simp [fr]
  by_cases hfit : (10 + s.length : Int) ≤ roomOf g
  · have hrun := addRun_fits (t := 1) (room := roomOf g) turn1 [s] [] (by intro x hx; simp only [List.mem_singleton] at hx; rw [hx]; exact hs) (by simp [usedOf]; omega)
    rw [List.nil_append, hf1] at hrun
    obtain ⟨P, hP⟩ : ∃ P, P = putN 0 (fr 1 l ++ frameB 1 s) d ((fr 1 l).length / 32) (((fr 1 l ++ frameB 1 s).length + 31) / 32 - (fr 1 l).length / 32) := ⟨_, rfl⟩
    have hadd : addG g d [s] = if P.2 = 0 then ({ g with l := l ++ [s], used := fr 1 l ++ frameB 1 s }, P.1, 0) else (g, P.1, P.2) := by
      unfold addG
      rw [ht, hrun, hlo, hused, hgl, hP]
      have : 0 < (frameB 1 s).length := by omega
      simp [this]
    have hk : (fr 1 l).length / 32 + (((fr 1 l ++ frameB 1 s).length + 31) / 32 - (fr 1 l).length / 32) ≤ d.now.length := by rw [h.len, List.length_append]; omega
    have o := putN_of (all := fr 1 l ++ frameB 1 s) _ ok.sz2 hk
    have hl := putN_l 0 (fr 1 l ++ frameB 1 s) (((fr 1 l ++ frameB 1 s).length + 31) / 32 - (fr 1 l).length / 32) d ((fr 1 l).length / 32)
    have hsy := putN_syn 0 (fr 1 l ++ frameB 1 s) (((fr 1 l ++ frameB 1 s).length + 31) / 32 - (fr 1 l).length / 32) (k := (fr 1 l).length / 32) h.syn
    rw [← hP] at o hl hsy
    have hcw : CW P.1 (fr 1 (l.take n)) := h.cw.put ⟨fr 1 (l.drop n) ++ frameB 1 s, by rw [← List.append_assoc, ← fr_take]⟩ o
    have hl' : P.1.l.length ≤ d.l.length + 42 := by rw [List.length_append] at hl; omega
    have hfa : fr 1 (l ++ [s]) = fr 1 l ++ frameB 1 s := by rw [fr_append, hf1]
    rw [hadd]
    by_cases h0 : P.2 = 0
    · rw [if_pos h0]
      refine ⟨fun _ => ⟨⟨by rw [hg, hfa], o.len.trans h.len, fun p hp => ?_, hsy, by rw [List.take_append_of_le_length h.n]; exact hcw, by rw [List.length_append]; have := h.n; omega⟩, by rw [hfa, List.length_append]; omega⟩, hcw, hl', o.len.trans h.len⟩
      rw [hfa] at hp ⊢
      simp only
      rw [o.now h0 p]
      split
      · rfl
      · rename_i hn
        have hpl : p < (fr 1 l).length := by rw [List.length_append] at hn hp; omega
        rw [getD_app hpl, h.now p hpl]
    · rw [if_neg h0]
      exact ⟨fun hz => absurd hz h0, hcw, hl', o.len.trans h.len⟩
  · have hrun : addRun 1 (roomOf g) [s] [] false = (0, [], true) := by
      rw [addRun_cons, frame_rec turn1 hs, if_pos rfl, if_pos (.inr (by simp only [List.length_nil]; omega))]
      rfl
    have hadd : addG g d [s] = (g, d, 2) := by
      unfold addG
      rw [ht, hrun]
      simp
    rw [hadd]
    exact ⟨fun hz => by simp at hz, h.cw, by simp only; omega, h.len⟩
theorem cs_sync {g : LG} {d : DK} {l : List (List UInt8)} {n : Nat} (h : CS g d l n) : (d.flush.2 = 0 → CS g d.flush.1 l l.length) ∧ CS g d.flush.1 l n ∧ d.flush.1.l.length ≤ d.l.length := by
  obtain ⟨b1, b2, b3⟩ := DK.burns_now d
  have hsy := syn_flush h.syn
  have hsu : applyAll d.sure d.l = d.now := h.syn.symm
  unfold DK.flush at hsy ⊢
  by_cases hb : d.burns.2 = true
  · rw [if_pos hb] at hsy ⊢
    have hnow : ({ d.burns.1 with sure := applyAll d.sure d.l, l := [] } : DK).now = d.now := b1
    have key : ∀ m, m ≤ l.length → CS g { d.burns.1 with sure := applyAll d.sure d.l, l := [] } l m := by
      intro m hm
      refine ⟨h.g, by rw [hnow]; exact h.len, fun p hp => by rw [hnow]; exact h.now p hp, hsy.1, ⟨fun p hp => ?_, fun x hx => by simp at hx⟩, hm⟩
      show byteAt (applyAll d.sure d.l) p = _
      have hlt : p < (fr 1 l).length := by rw [fr_take 1 l m, List.length_append]; omega
      rw [hsu, h.now p hlt, fr_take 1 l m, getD_app hp]
    exact ⟨fun _ => key _ (Nat.le_refl _), key _ h.n, hsy.2⟩
  · rw [if_neg hb] at hsy ⊢
    exact ⟨fun hz => by simp at hz, ⟨h.g, by simp only [b1]; exact h.len, fun p hp => by simp only [b1]; exact h.now p hp, hsy.1, ⟨fun p hp => by simp only [b3]; exact h.cw.sure p hp, fun x hx => by simp only [b2] at hx; exact h.cw.wr x hx⟩, h.n⟩, hsy.2⟩
theorem scan_valid (t : Int) : ∀ (n : Nat) (s : List UInt8), ∀ r ∈ scanL t n s, (frame t r).2 = 0 := by
  intro n
  induction n with
  | zero => intro s r hr; cases hr
  | succ n ih =>
    intro s r hr
    unfold scanL at hr
    split at hr
    · rename_i hok
      rcases List.mem_cons.1 hr with rfl | hr
      · obtain ⟨_, _, _, _, h5⟩ := (next_frame t s).1 hok
        rw [h5]
      · exact ih _ r hr
    · cases hr
/-- behind a crash -/
theorem cw_scan {d : DK} {A : List (List UInt8)} (h : CW d (fr 1 A)) (ok : d.Ok) (hlen : d.now.length = 40) (hA : Recs A) (hl : (fr 1 A).length ≤ 1280) (ks : List Int) :
    (d.crash ks).off = false ∧ (d.crash ks).now.length = 40 ∧ ∃ Z, scan 1 (allOf (d.crash ks) 0 (40 - 0)) = A ++ Z ∧ ∀ r ∈ A ++ Z, (frame 1 r).2 = 0 := by
  have hr := crashL_rows (n := d.now.length) (ks := ks) ok.len ok.sz1 ok.szl
  have hl2 : (d.crash ks).now.length = 40 := by show (crashL d.l ks d.sure).length = 40; rw [hr.1, hlen]
  refine ⟨rfl, hl2, ?_⟩
  have hall : allOf (d.crash ks) 0 (40 - 0) = (d.crash ks).now.flatten := by
    unfold allOf
    rw [List.drop_zero, List.take_of_length_le (by rw [hl2]; omega)]
  obtain ⟨r, hr⟩ := pre_flat (L := (d.crash ks).now) hr.2 (P := fr 1 A) (by rw [hl2]; omega) (h.crash ok ks)
  rw [hall, hr, scan_fr turn1 A r hA]
  refine ⟨scan 1 r, rfl, fun x hx => ?_⟩
  rcases List.mem_append.1 hx with hx | hx
  · rw [frame_rec turn1 (hA x hx)]
  · exact scan_valid 1 _ r x hx
theorem frameB_inj {t : Int} {a b : List UInt8} (h : frameB t a = frameB t b) : a = b := by
  have hd : ∀ s, (frameB t s).drop 10 = s := by
    intro s
    unfold frameB
    rw [List.drop_left' (by simp [headOf_len, put4_len])]
  rw [← hd a, ← hd b, h]
theorem frame_inj {t : Int} {a b : List UInt8} (ha : (frame t a).2 = 0) (hb : (frame t b).2 = 0) (h : (frame t a).1 = (frame t b).1) : a = b := by
  have key : ∀ s, (frame t s).2 = 0 → (frame t s).1 = frameB t s := by
    intro s hs
    unfold frame at hs ⊢
    split
    · rfl
    · rename_i hn; rw [if_neg hn] at hs; simp at hs
  rw [key a ha, key b hb] at h
  exact frameB_inj h
end Go.Proofs
