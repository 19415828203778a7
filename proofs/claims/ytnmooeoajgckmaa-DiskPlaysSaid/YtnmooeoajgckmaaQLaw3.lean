/- Part of the proof (text QLaw3): an engine, rules or contracts of the functions; it states nothing of the claim by itself. -/
import Derived.Test.YtnmooeoajgckmaaXLaw3
import Derived.Test.YtnmooeoajgckmaaQDisk5
/- Layer 3: the statements' helpers: filled, awake. -/
set_option linter.unusedVariables false
set_option linter.unusedSimpArgs false
namespace Go.Proofs
open Go Go.Q
theorem zc5 : zc Try.prog 5 = #[.int .u8 0] := by kernel_rfl
theorem rep5 (n : Nat) : rep (zc Try.prog 5) n = (u8c (List.replicate n 0)).toArray := by
  have := rep_replicate (.int .u8 0) 1 n (by omega)
  rw [zc5]
  simpa [u8c] using this
def fill32 (c : UInt8) : List UInt8 := List.replicate 32 c
@[simp] theorem fill32_len (c : UInt8) : (fill32 c).length = 32 := by simp [fill32]
theorem filled_spec {w : World} (c : UInt8) {K : Value → World → Prop} (hK : ∀ w', Kp [] w w' → K (.string (str (fill32 c))) w') : callG Try.prog 14 #[.int .u8 c.toNat] w K := by
  refine law03_filled_call ?_
  simp only [law03_filled, law03_filled_s4, law03_filled_s3]
  suffices hmain : law03_filled_L2 K (.int .u8 c.toNat) (.slice (some ⟨w.heap.size, 0, none⟩) 32 32) (.int .i64 0) (w.alloc (.cells (u8c (List.replicate 32 0)).toArray 5)) by
    simpa [mkG, rep5] using hmain
  unfold law03_filled_L2
  refine loop_inv (fun m xs w1 => ∃ i, i ≤ 32 ∧ m = 32 - i ∧ xs = [.int .u8 c.toNat, .slice (some ⟨w.heap.size, 0, none⟩) 32 32, .int .i64 (i : Nat)] ∧
    w1 = w.alloc (.cells (u8c (List.replicate i c ++ List.replicate (32 - i) 0)).toArray 5)) ?_ (m := 32) ⟨0, by omega, rfl, rfl, rfl⟩
  rintro m N xs w1 ⟨i, hi, rfl, rfl, rfl⟩ hN
  simp only [law03_filled_L2F, law03_filled_b1, bq_lss, bV_b]
  refine ⟨fun hlt => ?_, fun hge => ?_⟩
  · have hlt : i < 32 := by simp at hlt; omega
    have hin := hN (32 - (i + 1)) _ _ (by omega) ⟨i + 1, by omega, rfl, rfl, rfl⟩
    have hcells : (u8c (List.replicate i c ++ List.replicate (32 - i) 0)).set i (.int .u8 c.toNat) = u8c (List.replicate (i + 1) c ++ List.replicate (32 - (i + 1)) 0) := by
      have : 32 - i = (32 - (i + 1)) + 1 := by omega
      rw [this, List.replicate_succ, List.replicate_succ']
      simp [u8c]
    have hiw : IntKind.i64.wrap ((i : Int) + 1) = ((i + 1 : Nat) : Int) := by rw [w64 (by omega) (by omega)]; simp
    have hlen : (u8c (List.replicate i c ++ List.replicate (32 - i) 0)).length = 32 := by simp; omega
    obtain ⟨C, hC⟩ : ∃ C, C = u8c (List.replicate i c ++ List.replicate (32 - i) 0) := ⟨_, rfl⟩
    obtain ⟨C', hC'⟩ : ∃ C', C' = u8c (List.replicate (i + 1) c ++ List.replicate (32 - (i + 1)) 0) := ⟨_, rfl⟩
    rw [← hC, ← hC'] at hcells
    rw [← hC] at hlen
    rw [← hC'] at hin
    rw [← hC]
    simp [-getElem?_pos, -Array.getElem?_eq_getElem, -List.length_flatten, List.getElem?_cons_zero, List.getElem?_cons_succ, heap_new, hlen, hlt, hcells, hiw]
    refine ⟨by omega, ?_⟩
    simpa using hin
  · have hie : i = 32 := by simp at hge; omega
    subst hie
    have hlen : (u8c (List.replicate 32 c)).length = 32 := by simp
    have hK' := hK (w.alloc (.cells (u8c (List.replicate 32 c)).toArray 5)) ((Kp.refl _ _).alloc _)
    have ht : List.take 32 (u8c (List.replicate 32 c)) = u8c (List.replicate 32 c) := List.take_of_length_le (by simp)
    have hb := bytesOf_u8c (List.replicate 32 c)
    obtain ⟨C, hC⟩ : ∃ C, C = u8c (List.replicate 32 c) := ⟨_, rfl⟩
    simp only [Nat.sub_self, List.replicate_zero, List.append_nil]
    rw [← hC] at hlen ht hb hK' ⊢
    simp [-getElem?_pos, -Array.getElem?_eq_getElem, -List.length_flatten, List.getElem?_cons_zero, List.getElem?_cons_succ, law03_filled_s0, cvBS, heap_new, hlen, ht, hb]
    exact hK'

/-- a disk of the call's own: nothing that was there when the call began has turned -/
structure Own (w0 w : World) (b : Nat) (d : DK) (S : List Nat) : Prop where
  at_ : DiskAt w b d S
  kp : Kp [] w0 w
  new : ∀ x ∈ S, w0.heap.size ≤ x
theorem Own.keep {w0 w w' : World} {b : Nat} {d : DK} {S : List Nat} (h : Own w0 w b d S) (hk : Kp [] w w') : Own w0 w' b d S := ⟨h.at_.keep hk (by simp), h.kp.trans' hk, h.new⟩
theorem Own.next {w0 w w' : World} {b : Nat} {d d' : DK} {S S' : List Nat} (h : Own w0 w b d S) (h' : DiskAt w' b d' S') (hk : Kp S w w') (hS : ∀ x ∈ S', x ∈ S ∨ w.heap.size ≤ x) : Own w0 w' b d' S' :=
  ⟨h', h.kp.trans hk (fun x hx hlt => by have := h.new x hx; omega), fun x hx => by
    rcases hS x hx with hx | hx
    · exact h.new x hx
    · have := h.kp.size; omega⟩
theorem own_new {w0 w : World} (hk0 : Kp [] w0 w) {n : Nat} (h1 : 1 ≤ n) (h2 : n ≤ 4096) {K : Value → World → Prop}
    (hK : ∀ w' b S, Own w0 w' b (DK.fresh n) S → Kp [] w w' → K (.tuple #[.pointer (some ⟨b, 0, none⟩), .int .i64 0]) w') : callG Try.prog 12 #[.int .i64 n] w K :=
  New_ok h1 h2 fun w' b S hd hk hS => hK w' b S ⟨hd, hk0.trans' hk, fun x hx => by have := hS x hx; have := hk0.size; omega⟩ hk
theorem own_write {w0 w : World} {b : Nat} {d : DK} {S : List Nat} (h : Own w0 w b d S) (hl : d.l.length < 2 ^ 40) (at_ : Int) (s : List UInt8) {K : Value → World → Prop}
    (hK : ∀ w' S', Own w0 w' b (d.write at_ s).1 S' → Kp S w w' → (∀ x ∈ S', x ∈ S ∨ w.heap.size ≤ x) → K (.int .i64 (d.write at_ s).2) w') :
    callG Try.prog 13 #[.pointer (some ⟨b, 0, none⟩), .int .i64 at_, .string (str s)] w K :=
  Write_spec h.at_ hl at_ s fun w' S' hd hk hS => hK w' S' (h.next hd hk hS) hk hS
theorem own_flush {w0 w : World} {b : Nat} {d : DK} {S : List Nat} (h : Own w0 w b d S) (hl : d.l.length < 2 ^ 40) {K : Value → World → Prop}
    (hK : ∀ w', Own w0 w' b d.flush.1 S → Kp S w w' → K (.int .i64 d.flush.2) w') : callG Try.prog 15 #[.pointer (some ⟨b, 0, none⟩)] w K :=
  Flush_spec h.at_ hl fun w' hd hk => hK w' (h.next hd hk fun _ h => .inl h) hk
theorem own_crash {w0 w : World} {b : Nat} {d : DK} {S : List Nat} (h : Own w0 w b d S) (hl : d.l.length < 2 ^ 40) {kv : Value} {ks : List Int} {SK : List Nat} (hks : IntsAt w kv ks SK) (hdis : ∀ x ∈ SK, x ∉ S)
    (hkw : ∀ x ∈ ks, -9223372036854775808 ≤ x ∧ x < 9223372036854775808) {K : Value → World → Prop}
    (hK : ∀ w', Own w0 w' b (d.crash ks) S → Kp S w w' → K (.int .i64 0) w') : callG Try.prog 16 #[.pointer (some ⟨b, 0, none⟩), kv] w K :=
  Crash_spec h.at_ hl hks hdis hkw fun w' hd hk => hK w' (h.next hd hk fun _ h => .inl h) hk
theorem own_fuse {w0 w : World} {b : Nat} {d : DK} {S : List Nat} (h : Own w0 w b d S) (n : Int) (hn : n < 9223372036854775808) {K : Value → World → Prop}
    (hK : ∀ w', Own w0 w' b { d with fuse := max n (-1) } S → Kp S w w' → K (.int .i64 0) w') : callG Try.prog 23 #[.pointer (some ⟨b, 0, none⟩), .int .i64 n] w K :=
  Fuse_spec h.at_ n hn fun w' hd hk => by
    have hb : b ∈ S := by obtain ⟨bs, bn, lv, SL, T, Ts, Tn, rfl, _⟩ := h.at_; simp
    have hk' : Kp S w w' := hk.mono (by simpa using fun _ => hb)
    exact hK w' (h.next hd hk' fun _ h => .inl h) hk'
def awD1 : DK := ((DK.fresh 2).write 0 (fill32 97)).1
def awD2 : DK := awD1.flush.1
def awD3 : DK := (awD2.write 0 (fill32 98)).1
def awD4 : DK := awD3.crash [5]
theorem zc3 : zc Try.prog 3 = #[.int .i64 0] := by kernel_rfl
theorem awake_spec {w : World} {K : Value → World → Prop} (hK : ∀ w', Kp [] w w' → K (.bool true) w') : callG Try.prog 18 #[] w K := by
  refine law03_awake_call ?_
  simp only [law03_awake, law03_awake_s2]
  refine own_new (n := 2) (Kp.refl [] w) (by omega) (by omega) fun w1 b S1 o1 _ => ?_
  simp [-getElem?_pos, -Array.getElem?_eq_getElem, -List.length_flatten, List.getElem?_cons_zero, List.getElem?_cons_succ, ]
  refine filled_spec 97 fun w2 hk2 => ?_
  refine own_write (o1.keep hk2) (by simp [DK.fresh]) 0 (fill32 97) fun w3 S3 o3 _ _ => ?_
  have e3 : ((DK.fresh 2).write 0 (fill32 97)).2 = 0 := by decide
  simp [-getElem?_pos, -Array.getElem?_eq_getElem, -List.length_flatten, List.getElem?_cons_zero, List.getElem?_cons_succ, e3]
  refine own_flush o3 (by decide) fun w4 o4 _ => ?_
  have e4 : ((DK.fresh 2).write 0 (fill32 97)).1.flush.2 = 0 := by decide
  simp [-getElem?_pos, -Array.getElem?_eq_getElem, -List.length_flatten, List.getElem?_cons_zero, List.getElem?_cons_succ, e4]
  refine filled_spec 98 fun w5 hk5 => ?_
  refine own_write (o4.keep hk5) (by decide) 0 (fill32 98) fun w6 S6 o6 _ _ => ?_
  have e6 : (((DK.fresh 2).write 0 (fill32 97)).1.flush.1.write 0 (fill32 98)).2 = 0 := by decide
  simp [-getElem?_pos, -Array.getElem?_eq_getElem, -List.length_flatten, List.getElem?_cons_zero, List.getElem?_cons_succ, e6]
  refine Waits_spec o6.at_ ?_
  have e7 : (((DK.fresh 2).write 0 (fill32 97)).1.flush.1.write 0 (fill32 98)).1.l.length = 1 := by decide
  simp [-getElem?_pos, -Array.getElem?_eq_getElem, -List.length_flatten, List.getElem?_cons_zero, List.getElem?_cons_succ, e7]
  simp only [law03_awake_s1]
  refine Read_spec o6.at_ 0 ?_
  have e8 : (((DK.fresh 2).write 0 (fill32 97)).1.flush.1.write 0 (fill32 98)).1.read 0 = (fill32 98, 0) := by decide
  simp [-getElem?_pos, -Array.getElem?_eq_getElem, -List.length_flatten, List.getElem?_cons_zero, List.getElem?_cons_succ, e8]
  refine filled_spec 98 fun w8 hk8 => ?_
  have o8 := o6.keep hk8
  simp [-getElem?_pos, -Array.getElem?_eq_getElem, -List.length_flatten, List.getElem?_cons_zero, List.getElem?_cons_succ, bsl_one]
  have hk9 : Kp [] w8 (w8.alloc (.cells #[.int .i64 5] 3)) := (Kp.refl _ _).alloc _
  have o9 := o8.keep hk9
  have hks : IntsAt (w8.alloc (.cells #[.int .i64 5] 3)) (.slice (some ⟨w8.heap.size, 0, none⟩) 1 1) [5] [w8.heap.size] :=
    ⟨_, 1, rfl, .inr ⟨_, 0, _, _, _, rfl, rfl, heap_new, fun i hi => by have : i = 0 := by simpa using hi
                                                                        subst this; rfl⟩⟩
  have hdis : ∀ x ∈ [w8.heap.size], x ∉ S6 := by
    intro x hx hx6
    simp only [List.mem_singleton] at hx
    subst hx
    obtain ⟨bs, bn, lv, SL, T, Ts, Tn, rfl, h⟩ := o8.at_
    exact absurd (h.live _ hx6) (by omega)
  rw [bsl_one rfl]
  refine own_crash o9 (by decide) hks hdis (by simp) fun w10 o10 _ => ?_
  simp [-getElem?_pos, -Array.getElem?_eq_getElem, -List.length_flatten, List.getElem?_cons_zero, List.getElem?_cons_succ, ]
  simp only [law03_awake_s0]
  refine Read_spec o10.at_ 0 ?_
  have e10 : ((((DK.fresh 2).write 0 (fill32 97)).1.flush.1.write 0 (fill32 98)).1.crash [5]).read 0 = ((fill32 98).take 5 ++ (fill32 97).drop 5, 0) := by decide
  simp [-getElem?_pos, -Array.getElem?_eq_getElem, -List.length_flatten, List.getElem?_cons_zero, List.getElem?_cons_succ, e10]
  refine filled_spec 98 fun w11 hk11 => ?_
  simp [-getElem?_pos, -Array.getElem?_eq_getElem, -List.length_flatten, List.getElem?_cons_zero, List.getElem?_cons_succ, ]
  refine filled_spec 97 fun w12 hk12 => ?_
  have o12 := (o10.keep ((Kp.refl _ _).drew.trans' hk11)).keep hk12
  have e12 : List.drop 5 (List.take 32 (fill32 97)) = List.drop 5 (fill32 97) := by decide
  simp [-getElem?_pos, -Array.getElem?_eq_getElem, -List.length_flatten, List.getElem?_cons_zero, List.getElem?_cons_succ, bq_sadd, str_extract, e12]
  refine Size_spec o12.at_ ?_
  have e13 : ((((DK.fresh 2).write 0 (fill32 97)).1.flush.1.write 0 (fill32 98)).1.crash [5]).now.length = 2 := by decide
  simp [-getElem?_pos, -Array.getElem?_eq_getElem, -List.length_flatten, List.getElem?_cons_zero, List.getElem?_cons_succ, e13]
  refine Waits_spec o12.at_ ?_
  simpa [DK.crash] using hK w12 o12.kp
end Go.Proofs
