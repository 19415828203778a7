/- Part of the proof (text QFuse): an engine, rules or contracts of the functions; it states nothing of the claim by itself. -/
import Derived.Test.YtnmooeoajgckmaaQSure2
import Derived.Test.YtnmooeoajgckmaaXLaw3b
/- DiskFuses: a fuse lets just so many writes and flushes be. -/
set_option linter.unusedVariables false
set_option linter.unusedSimpArgs false
namespace Go.Proofs
open Go Go.Q
structure FZ (d : DK) (left : Nat) : Prop where
  len : d.now.length = 8
  st : (d.off = false ∧ d.fuse = (left : Int)) ∨ (left = 0 ∧ d.off = true)
theorem FZ.burns {d : DK} {left : Nat} (h : FZ d left) : d.burns.2 = decide (left ≠ 0) ∧ d.burns.1.off = decide (left = 0) ∧ d.burns.1.now = d.now ∧ d.burns.1.l = d.l ∧ d.burns.1.sure = d.sure ∧ FZ d.burns.1 (left - 1) := by
  obtain ⟨hl, h⟩ := h
  unfold DK.burns
  by_cases h0 : left = 0
  · have hc : d.off = true ∨ d.fuse = 0 := by rcases h with ⟨_, h⟩ | ⟨_, h⟩ <;> simp_all
    rw [if_pos hc]
    subst h0
    exact ⟨by simp, by simp, rfl, rfl, rfl, hl, .inr ⟨rfl, rfl⟩⟩
  · have h1 : d.off = false ∧ d.fuse = (left : Int) := by rcases h with h | ⟨h, _⟩; exact h; exact absurd h h0
    have hc : ¬ (d.off = true ∨ d.fuse = 0) := by rw [h1.1, h1.2]; simp; exact h0
    rw [if_neg hc]
    have hf : d.fuse > 0 := by rw [h1.2]; omega
    exact ⟨by simp [h0], by simp [h0, h1.1], rfl, rfl, rfl, hl, .inl ⟨h1.1, by simp only [hf, if_true]; omega⟩⟩
def wantOf (left : Nat) : Int := if left = 0 then 30 else 0
structure FZ' (d d' : DK) (left : Nat) (r : Int) : Prop where
  fz : FZ d' (left - 1)
  r : r = wantOf left
  off : d'.off = decide (left = 0)
  l : d'.l.length ≤ d.l.length + 1
theorem FZ.write {d : DK} {left i : Nat} (h : FZ d left) (hi : i < 8) {s : List UInt8} (hs : s.length = 32) : FZ' d (d.write i s).1 left (d.write i s).2 := by
  obtain ⟨b1, b2, b3, b4, b5, b6⟩ := h.burns
  unfold DK.write
  rw [if_pos ⟨⟨by omega, by rw [h.len]; omega⟩, hs⟩]
  by_cases h0 : left = 0
  · rw [if_neg (by rw [b1]; simp [h0])]
    exact ⟨b6, by simp [wantOf, h0], b2, by show d.burns.1.l.length ≤ _; rw [b4]; omega⟩
  · rw [if_pos (by rw [b1]; simp [h0])]
    exact ⟨⟨by simp [h.len], b6.st⟩, by simp [wantOf, h0], b2, by simp⟩
theorem FZ.flush {d : DK} {left : Nat} (h : FZ d left) : FZ' d d.flush.1 left d.flush.2 := by
  obtain ⟨b1, b2, b3, b4, b5, b6⟩ := h.burns
  unfold DK.flush
  by_cases h0 : left = 0
  · rw [if_neg (by rw [b1]; simp [h0])]
    exact ⟨b6, by simp [wantOf, h0], b2, by show d.burns.1.l.length ≤ _; rw [b4]; omega⟩
  · rw [if_pos (by rw [b1]; simp [h0])]
    exact ⟨⟨b6.len, b6.st⟩, by simp [wantOf, h0], b2, by simp⟩
section
variable {w0 : World} {b : Nat} {kv : Value} {ks : List Int} {SK : List Nat}
theorem fuse_end {R : Value → World → Prop} (hR : ∀ w', Kp [] w0 w' → R (.bool true) w') {w : World} {d : DK} {S : List Nat} {left : Nat} (o : Own w0 w b d S) (hf : FZ d left) (hl : d.l.length < 2 ^ 40) :
    law03_DiskFuses_s0 R (.pointer (some ⟨b, 0, none⟩)) w := by
  unfold law03_DiskFuses_s0
  refine Read_spec o.at_ 0 ?_
  have hr : (d.read 0).2 = if d.off = true then 30 else 0 := by
    unfold DK.read
    rw [if_pos ⟨by omega, by rw [hf.len]; omega⟩]
    split <;> rfl
  simp [-getElem?_pos, -Array.getElem?_eq_getElem, -List.length_flatten, List.getElem?_cons_zero, List.getElem?_cons_succ, hr]
  refine Off_spec o.at_ ?_
  have he : decide ((if d.off = true then (30 : Int) else 0) = 30) = d.off := by cases d.off <;> rfl
  simp [-getElem?_pos, -Array.getElem?_eq_getElem, -List.length_flatten, List.getElem?_cons_zero, List.getElem?_cons_succ, he]
  refine own_crash o hl (kv := .slice none 0 0) (ks := []) (SK := []) ⟨none, 0, rfl, .inl rfl⟩ (by simp) (by simp) fun w1 o1 _ => ?_
  simp [-getElem?_pos, -Array.getElem?_eq_getElem, -List.length_flatten, List.getElem?_cons_zero, List.getElem?_cons_succ, ]
  refine Off_spec o1.at_ ?_
  simp [-getElem?_pos, -Array.getElem?_eq_getElem, -List.length_flatten, List.getElem?_cons_zero, List.getElem?_cons_succ, DK.crash]
  exact awake_spec fun w' hk' => hR w' (o1.kp.trans' hk')
theorem fuse_loop {R : Value → World → Prop} (hR : ∀ w', Kp [] w0 w' → R (.bool true) w') (hks : IntsAt w0 kv ks SK)
    {w : World} {d : DK} {S : List Nat} {left : Nat} (o : Own w0 w b d S) (hf : FZ d left) (hl : d.l.length = 0) (hleft : left < 40) :
    law03_DiskFuses_L6 R kv (.pointer (some ⟨b, 0, none⟩)) (.int .i64 left) (.int .i64 0) w := by
  unfold law03_DiskFuses_L6
  refine loop_inv (fun m xs w => ∃ (i : Nat) (left : Nat) (S : List Nat) (d : DK), i ≤ 30 ∧ m = 30 - i ∧ xs = [kv, .pointer (some ⟨b, 0, none⟩), .int .i64 left, .int .i64 (i : Nat)] ∧ Own w0 w b d S ∧ FZ d left ∧ d.l.length ≤ i ∧ left < 40)
    ?_ (m := 30) ⟨0, left, S, d, by omega, rfl, rfl, o, hf, by omega, hleft⟩
  rintro m N xs w ⟨i, left, S, d, hi, rfl, rfl, o, hf, hl, hleft⟩ hN
  have hks' := hks.keep o.kp (by simp)
  obtain ⟨ka, kc, hkv⟩ := hks'.len
  have hkl : ∀ K : Value → Prop, lenL kv K = K (.int .i64 ks.length) := by intro K; rw [hkv]; rfl
  simp only [law03_DiskFuses_L6F, law03_DiskFuses_s5, hkl, bq_lss, bV_b]
  refine ⟨fun hj => ⟨fun hlt => ?_, fun _ => fuse_end hR o hf (by omega)⟩, fun _ => fuse_end hR o hf (by omega)⟩
  have hlt : i < 30 := by simp at hlt; omega
  have hj : i < ks.length := by simpa using hj
  have hiw : IntKind.i64.wrap ((i : Int) + 1) = ((i + 1 : Nat) : Int) := by rw [w64 (by omega) (by omega)]; simp
  have tail : ∀ (d' : DK) (S' : List Nat) (r : Int) (w : World), Own w0 w b d' S' → FZ' d d' left r → law03_DiskFuses_s2 R N kv (.pointer (some ⟨b, 0, none⟩)) (.int .i64 left) (.int .i64 i) (.int .i64 (wantOf left)) (.int .i64 r) w := by
    intro d' S' r w o' hz
    have hin := hN (30 - (i + 1)) [kv, .pointer (some ⟨b, 0, none⟩), .int .i64 ((left - 1 : Nat) : Int), .int .i64 ((i + 1 : Nat) : Int)] w (by omega) ⟨i + 1, left - 1, S', d', by omega, rfl, rfl, o', hz.fz, by have := hz.l; omega, by omega⟩
    unfold law03_DiskFuses_s2
    rw [hz.r]
    simp [-getElem?_pos, -Array.getElem?_eq_getElem, -List.length_flatten, List.getElem?_cons_zero, List.getElem?_cons_succ, ]
    refine Off_spec o'.at_ ?_
    have hw : decide (wantOf left = 30) = decide (left = 0) := by
      unfold wantOf; by_cases h : left = 0 <;> simp [h]
    simp [-getElem?_pos, -Array.getElem?_eq_getElem, -List.length_flatten, List.getElem?_cons_zero, List.getElem?_cons_succ, hz.off, hw]
    refine ⟨fun hp => ?_, fun hp => ?_⟩
    · have : IntKind.i64.wrap ((left : Int) - 1) = ((left - 1 : Nat) : Int) := by rw [w64 (by omega) (by omega)]; omega
      simp [-getElem?_pos, -Array.getElem?_eq_getElem, -List.length_flatten, List.getElem?_cons_zero, List.getElem?_cons_succ, this, law03_DiskFuses_s1, hiw]
      exact hin
    · have h0 : left = 0 := by omega
      subst h0
      simp [-getElem?_pos, -Array.getElem?_eq_getElem, -List.length_flatten, List.getElem?_cons_zero, List.getElem?_cons_succ, law03_DiskFuses_s1, hiw]
      exact hin
  have hws : law03_DiskFuses_s4 R N kv (.pointer (some ⟨b, 0, none⟩)) (.int .i64 left) (.int .i64 i) w = law03_DiskFuses_s3 R N kv (.pointer (some ⟨b, 0, none⟩)) (.int .i64 left) (.int .i64 i) (.int .i64 (wantOf left)) w := by
    unfold law03_DiskFuses_s4 wantOf
    simp only [bq_eql, bV_b]
    by_cases h : left = 0
    · subst h; simp
    · simp [h]
  rw [hws]
  unfold law03_DiskFuses_s3
  rw [rem_of (by omega) (by omega)]
  simp only [bq_eql, bV_b]
  refine ⟨fun _ => ?_, fun _ => ?_⟩
  · exact own_flush o (by omega) fun w1 o1 _ => tail _ _ _ _ o1 hf.flush
  · obtain ⟨bk, ok, ck, Tk, frk, hbk, hkheap, hkia, hkc⟩ := hks'.at hj
    obtain ⟨q, hq⟩ : ∃ q, q = ks.getD i 0 := ⟨_, rfl⟩
    rw [← hq] at hkc
    simp [-getElem?_pos, -Array.getElem?_eq_getElem, -List.length_flatten, List.getElem?_cons_zero, List.getElem?_cons_succ, hkia, hkheap, hkc]
    refine filled_spec 120 fun w2 hk2 => ?_
    have hk3 : Kp [] w w2 := Kp.trans' (Kp.refl [] w).drew hk2
    have hkh2 := hk3.get hkheap (by simp)
    obtain ⟨n, hn⟩ : ∃ n : Nat, q % 8 = (n : Int) := ⟨(q % 8).toNat, by have := Int.emod_nonneg q (show (8 : Int) ≠ 0 by omega); omega⟩
    have hn8 : n < 8 := by have := Int.emod_lt_of_pos q (show (0 : Int) < 8 by omega); omega
    simp [-getElem?_pos, -Array.getElem?_eq_getElem, -List.length_flatten, List.getElem?_cons_zero, List.getElem?_cons_succ, hkh2, hkc, hn]
    exact own_write (o.keep hk3) (by omega) n _ fun w3 S3 o3 _ _ => tail _ _ _ _ o3 (hf.write hn8 (by simp))
theorem fuse_call {fuse : Int} {R : Value → World → Prop} (hR : ∀ w', Kp [] w0 w' → R (.bool true) w') (hks : IntsAt w0 kv ks SK) : callG Try.prog 5 #[kv, .int .i64 fuse] w0 R := by
  refine law03_DiskFuses_call ?_
  simp only [law03_DiskFuses, law03_DiskFuses_s9]
  refine own_new (n := 8) (Kp.refl [] w0) (by omega) (by omega) fun w1 b S1 o1 _ => ?_
  obtain ⟨n, hn⟩ : ∃ n : Nat, fuse % 256 % 40 = (n : Int) := ⟨(fuse % 256 % 40).toNat, by have := Int.emod_nonneg (fuse % 256) (show (40 : Int) ≠ 0 by omega); omega⟩
  have hn40 : n < 40 := by have := Int.emod_lt_of_pos (fuse % 256) (show (0 : Int) < 40 by omega); omega
  have hf0 : 0 ≤ fuse % 256 := Int.emod_nonneg fuse (by omega)
  have hrem : ∀ (xo yo : Operand) (w : World) (K : Value → Prop), qG Try.prog (bq .rem 3 xo yo (.int .i64 (fuse % 256)) (.int .i64 40)) w K = K (.int .i64 n) := by
    intro xo yo w K; rw [rem_of hf0 (by omega), hn]
  simp [-getElem?_pos, -Array.getElem?_eq_getElem, -List.length_flatten, List.getElem?_cons_zero, List.getElem?_cons_succ, hrem]
  refine own_fuse o1 n (by omega) fun w2 o2 _ => ?_
  simp [-getElem?_pos, -Array.getElem?_eq_getElem, -List.length_flatten, List.getElem?_cons_zero, List.getElem?_cons_succ, law03_DiskFuses_s8, hrem, law03_DiskFuses_s7]
  refine fuse_loop hR hks o2 ⟨by simp [DK.fresh, secs0], .inl ⟨rfl, ?_⟩⟩ rfl hn40
  show max (n : Int) (-1) = n
  omega
end
end Go.Proofs
