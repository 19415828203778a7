/- Part of the proof (text QDisk5): an engine, rules or contracts of the functions; it states nothing of the claim by itself. -/
import Derived.Test.YtnmooeoajgckmaaQDisk4
/- Layer 3, the disk: Crash. -/
set_option linter.unusedVariables false
set_option linter.unusedSimpArgs false
namespace Go.Proofs
open Go Go.Q
theorem pre_cells {L : List (List UInt8)} (h : ∀ x ∈ L, x.length = 32) {i : Nat} (hi : i < L.length) {s : List UInt8} (hs : s.length ≤ 32) :
    splice (L.map u8c).flatten.toArray (i * 32) (u8c s).toArray = ((L.set i (s ++ (L.getD i []).drop s.length)).map u8c).flatten.toArray := by
  rw [splice_list, flat_splice (k := 32) (by intro x hx; rw [List.mem_map] at hx; obtain ⟨y, hy, rfl⟩ := hx; simp [h y hy]) (by simpa using hi) (by simp [hs])]
  congr 2
  rw [List.map_set]
  congr 1
  rw [u8c_append, ← u8c_drop]
  simp [List.getD, hi]
/-- the sectors as written are others -/
theorem DiskIs.setNow {w : World} {b : Nat} {d : DK} {bs bn : Nat} {lv : Value} {SL : List Nat} {T Ts Tn : Nat} (h : DiskIs w b d bs bn lv SL T Ts Tn) (L : List (List UInt8)) (hL : ∀ x ∈ L, x.length = 32) (hn : L.length = d.now.length) :
    DiskIs (setBlk w bn (.cells (L.map u8c).flatten.toArray Tn (0, 0))) b { d with now := L } bs bn lv SL T Ts Tn ∧ Kp [bn] w (setBlk w bn (.cells (L.map u8c).flatten.toArray Tn (0, 0))) := by
  obtain ⟨n1, n2, n3, n4, n5, n6, n7, n8, n9, n10⟩ := h.ne
  have hk : Kp [bn] w (setBlk w bn (.cells (L.map u8c).flatten.toArray Tn (0, 0))) := (Kp.refl _ _).setBlk (.inl (by simp)) _
  exact ⟨⟨by simp only [hn]; exact hk.get h.hb (by simpa using n2), hk.get h.hs (by simpa using n4), heap_self (live_of h.hn), RowsAt.keep h.hl hk (fun x hx => by simp; intro hh; subst hh; exact n6 hx), h.nd,
    ⟨by simp only [hn]; exact h.ok.len, by simp only [hn]; exact h.ok.pos, by simp only [hn]; exact h.ok.most, h.ok.sz1, hL, by simp only [hn]; exact h.ok.szl, h.ok.f0, h.ok.f1⟩⟩, hk⟩
theorem Crash_loop {R : Value → World → Prop} {w0 : World} {b : Nat} {d : DK} {bs bn : Nat} {lv kv : Value} {ks : List Int} {SK : List Nat} {SL : List Nat} {T Ts Tn : Nat} (h0 : DiskIs w0 b d bs bn lv SL T Ts Tn) (hlen : d.l.length < 2 ^ 40)
    (hks : IntsAt w0 kv ks SK) (hdis : ∀ x ∈ SK, x ∉ b :: bs :: bn :: SL) (hkw : ∀ x ∈ ks, -9223372036854775808 ≤ x ∧ x < 9223372036854775808)
    (hend : ∀ w', DiskIs w' b { d with sure := crashL d.l ks d.sure } bs bn lv SL T Ts Tn → Kp [bs] w0 w' → disk_Disk_Crash_s0 R (.pointer (some ⟨b, 0, none⟩)) w') :
    disk_Disk_Crash_L2 R (.pointer (some ⟨b, 0, none⟩)) kv lv (.int .i64 d.l.length) (.int .i64 0) w0 := by
  unfold disk_Disk_Crash_L2
  have hstart : crashL (d.l.take 0) ks d.sure = d.sure := rfl
  refine loop_inv (fun m xs w => ∃ i, i ≤ d.l.length ∧ m = d.l.length - i ∧ xs = [.pointer (some ⟨b, 0, none⟩), kv, lv, .int .i64 d.l.length, .int .i64 i] ∧
    DiskIs w b { d with sure := crashL (d.l.take i) ks d.sure } bs bn lv SL T Ts Tn ∧ Kp [bs] w0 w) ?_ (m := d.l.length) ⟨0, by omega, by omega, rfl, by rw [hstart]; exact h0, Kp.refl _ _⟩
  rintro m N xs w ⟨i, hi, rfl, rfl, h, hk⟩ hN
  simp only [disk_Disk_Crash_L2F, disk_Disk_Crash_b1, bq_lss, bV_b]
  refine ⟨fun hlt => ?_, fun hge => ?_⟩
  · have hlt : i < d.l.length := by simpa using hlt
    have hks' : IntsAt w kv ks SK := hks.keep hk (fun x hx => by
      have := hdis x hx
      simp only [List.mem_cons, not_or] at this
      simp [this.2.1])
    obtain ⟨n1, n2, n3, n4, n5, n6, n7, n8, n9, n10⟩ := h.ne
    obtain ⟨bl, TF, c, hbl, hheap, hia, hle, hext, _⟩ := RowsAt.at h.hl (i := i) (by simpa using hlt)
    have hrow : (d.l.map encW)[i]'(by simpa using hlt) = encW d.l[i] := by simp
    simp only at hia hext
    rw [hrow] at hext
    have hx := h0.ok.szl d.l[i] (List.getElem_mem hlt)
    have hin := hN (d.l.length - (i + 1)) [.pointer (some ⟨b, 0, none⟩), kv, lv, .int .i64 d.l.length, .int .i64 ((i + 1 : Nat) : Int)]
    have hencl : (encW d.l[i]).length = 33 := by simp [encW, hx.2]
    have hzsz : (zc Try.prog 93).size = 33 := by rw [zc93]; simp
    have hsp : splice (zc Try.prog 93) 0 (encW d.l[i]).toArray = (encW d.l[i]).toArray := by
      have : (zc Try.prog 93).toList.drop 33 = [] := List.drop_of_length_le (by simp [hzsz])
      simp [splice, hencl, this]
    have hone : (encW d.l[i]).toArray.all one = true := by
      have := one_u8c d.l[i].2
      rw [List.all_toArray] at this ⊢
      simpa [encW] using this
    obtain ⟨E, hE⟩ : ∃ E, E = (encW d.l[i]).toArray := ⟨_, rfl⟩
    have hE0 : E[0]? = some (.int .i64 d.l[i].1) := by rw [hE]; rfl
    have hEs : E.size = 33 := by rw [hE]; simpa using hencl
    have hEx : ∀ n, n ≤ 32 → E.extract 1 (1 + n) = (u8c (d.l[i].2.take n)).toArray := by
      intro n hn
      rw [hE, extract_list, ← u8c_take]
      simp [encW]
    rw [← hE] at hext hsp hone
    have hlb := live_of h.hb
    have hls := live_of h.hs
    have hks1 : Kp [] w (w.alloc (.cells E 93)) := (Kp.refl _ _).alloc _
    have h' := h.keep hks1 (by simp)
    have hiw : IntKind.i64.wrap ((i : Int) + 1) = ((i + 1 : Nat) : Int) := by rw [w64 (by omega) (by omega)]; simp
    obtain ⟨ka, kc, hkv⟩ := hks'.len
    have hkl : ∀ K : Value → Prop, lenL kv K = K (.int .i64 ks.length) := by intro K; rw [hkv]; rfl
    have hi1 : d.l[i].1 < (crashL (d.l.take i) ks d.sure).length := by have := h.ok.len; simp only at this; omega
    have hsz := h.ok.sz1
    simp only at hsz
    have hL : crashL (d.l.take (i + 1)) ks d.sure = crash1 d.l[i] ks[i]? (crashL (d.l.take i) ks d.sure) := by
      rw [take_snoc hlt, crashL_snoc]; simp [Nat.min_eq_left hi]
    have hkd : ∀ w, Kp [] w w.drew := fun w => (Kp.refl _ w).drew
    rw [hia]
    by_cases hik : i < ks.length
    · obtain ⟨bk, ok, ck, Tk, frk, hbk, hkheap, hkia, hkc⟩ := hks'.at hik
      have hkne := live_of hkheap
      obtain ⟨q, hq⟩ : ∃ q, q = ks.getD i 0 := ⟨_, rfl⟩
      rw [← hq] at hkc
      have hki : ks[i]? = some q := by rw [hq]; simp [List.getD, hik]
      obtain ⟨n, hn⟩ : ∃ n, n = (max 0 (min q 32)).toNat := ⟨_, rfl⟩
      have hnq : max 0 (min q 32) = (n : Int) := by omega
      have hn32 : n ≤ 32 := by omega
      have hpre := pre_cells hsz hi1 (s := d.l[i].2.take n) (by simp; omega)
      have hmin : Nat.min 32 n = n := Nat.min_eq_right hn32
      have htl : (d.l[i].2.take n).length = n := by simp [hx.2, hn32]
      rw [htl] at hpre
      have honep := one_u8c (d.l[i].2.take n)
      obtain ⟨X, hX⟩ : ∃ X, X = (u8c (d.l[i].2.take n)).toArray := ⟨_, rfl⟩
      have hEX : E.extract 1 (1 + n) = X := by rw [hEx n hn32, hX]
      have hXs : X.size = n := by rw [hX]; simpa using htl
      rw [← hX] at hpre honep
      simp [-getElem?_pos, -Array.getElem?_eq_getElem, -List.length_flatten, List.getElem?_cons_zero, List.getElem?_cons_succ, hheap, hle, hext, hEs, hzsz, hone, hsp, h.hb, heap_new, heap_old, hlb, hls, hE0, hx.1, h.hs, hiw, hkl, hik, hkia, hkheap, hkc, hkne, hnq, hn32, cp, src, wrO, hmin, hEX, hXs, hpre]
      have hset := h'.setSure ((crashL (d.l.take i) ks d.sure).set d.l[i].1 (d.l[i].2.take n ++ ((crashL (d.l.take i) ks d.sure).getD d.l[i].1 []).drop n)) (by
        intro x hx'
        have hok := crashL_ok (n := d.now.length) (ks := ks) (l := d.l.take (i + 1)) h0.ok.sz1 (by have := h0.ok.len; exact this) (fun x hx => h0.ok.szl x (List.mem_of_mem_take hx))
        rw [hL, hki] at hok
        simp only [crash1, ← hn] at hok
        exact hok.1 x hx') (by simp)
      refine ⟨fun j hj => by rw [Array.all_eq_true] at hone; exact hone j (by omega), by omega, by omega, ⟨by rw [rows_len hsz]; omega, by rw [show min (1 + n) 33 - 1 = X.size by omega]; exact honep⟩, ?_⟩
      refine hin _ (by omega) ⟨i + 1, hlt, rfl, by simp, ?_, ?_⟩
      · rw [hL, hki]; simp only [crash1, ← hn]
        have := hset.1.keep (hkd _) (by simp)
        simpa using this
      · have := (hk.trans' ((hks1.mono (by simp)).trans' hset.2)).drew
        simpa using this
    · have hki : ks[i]? = none := by simp; omega
      simp [-getElem?_pos, -Array.getElem?_eq_getElem, -List.length_flatten, List.getElem?_cons_zero, List.getElem?_cons_succ, hheap, hle, hext, hEs, hzsz, hone, hsp, h.hb, heap_new, heap_old, hlb, hls, hE0, hx.1, h.hs, hiw, hkl, hik]
      refine ⟨fun j hj => by rw [Array.all_eq_true] at hone; exact hone j (by omega), ?_⟩
      refine hin _ (by omega) ⟨i + 1, hlt, rfl, by simp, ?_, hk.trans' (hks1.mono (by simp))⟩
      rw [hL, hki]
      exact h'
  · have hie : i = d.l.length := by simp at hge; omega
    subst hie
    rw [List.take_length] at h
    exact hend w h hk

theorem Crash_spec {w : World} {b : Nat} {d : DK} {S : List Nat} (h : DiskAt w b d S) (hl : d.l.length < 2 ^ 40) {kv : Value} {ks : List Int} {SK : List Nat} (hks : IntsAt w kv ks SK) (hdis : ∀ x ∈ SK, x ∉ S)
    (hkw : ∀ x ∈ ks, -9223372036854775808 ≤ x ∧ x < 9223372036854775808) {K : Value → World → Prop}
    (hK : ∀ w', DiskAt w' b (d.crash ks) S → Kp S w w' → K (.int .i64 0) w') : callG Try.prog 16 #[.pointer (some ⟨b, 0, none⟩), kv] w K := by
  refine disk_Disk_Crash_call ?_
  simp only [disk_Disk_Crash, disk_Disk_Crash_s4]
  refine Size_spec h ?_
  obtain ⟨bs, bn, lv, SL, T, Ts, Tn, rfl, h⟩ := h
  have hp : d.now ≠ [] := by intro hh; have := h.ok.pos; rw [hh] at this; simp at this
  obtain ⟨a, c, hlv⟩ := LogAt.len h.hl
  suffices hmain : disk_Disk_Crash_L2 K (.pointer (some ⟨b, 0, none⟩)) kv lv (.int .i64 d.l.length) (.int .i64 0) w by
    rw [hlv] at hmain
    simpa [hp, disk_Disk_Crash_s3, h.hb, hlv] using hmain
  refine Crash_loop h hl hks hdis hkw fun w1 h1 hk1 => ?_
  obtain ⟨n1, n2, n3, n4, n5, n6, n7, n8, n9, n10⟩ := h1.ne
  have hok := crashL_ok (n := d.now.length) (ks := ks) (l := d.l) h.ok.sz1 h.ok.len h.ok.szl
  -- now is what is sure
  obtain ⟨L, hL⟩ : ∃ L, L = crashL d.l ks d.sure := ⟨_, rfl⟩
  rw [← hL] at hok h1
  obtain ⟨C, hC⟩ : ∃ C, C = (L.map u8c).flatten.toArray := ⟨_, rfl⟩
  obtain ⟨N, hN⟩ : ∃ N, N = (d.now.map u8c).flatten.toArray := ⟨_, rfl⟩
  have hs := h1.hs
  have hn := h1.hn
  simp only at hs hn
  rw [← hC] at hs
  rw [← hN] at hn
  have hCs : C.size = d.now.length * 32 := by
    have := rows_len hok.1
    rw [hok.2] at this
    rw [hC]; exact this
  have hNs : N.size = d.now.length * 32 := by
    have := rows_len h.ok.sz2
    rw [hN]; exact this
  have hCone : C.all one = true := by
    rw [hC, List.all_toArray, List.all_eq_true]
    intro x hx
    rw [List.mem_flatten] at hx
    obtain ⟨y, hy, hxy⟩ := hx
    rw [List.mem_map] at hy
    obtain ⟨z, _, rfl⟩ := hy
    have := one_u8c z
    rw [List.all_toArray, List.all_eq_true] at this
    exact this x hxy
  have hCx : C.extract 0 (d.now.length * 32) = C := by rw [← hCs]; simp
  have hsp : splice N 0 C = C := by
    have : N.toList.drop C.size = [] := List.drop_of_length_le (by simp [hNs, hCs])
    simp [splice, this]
  have hlb := live_of h1.hb
  have hln := live_of h1.hn
  simp [-getElem?_pos, -Array.getElem?_eq_getElem, -List.length_flatten, List.getElem?_cons_zero, List.getElem?_cons_succ, disk_Disk_Crash_s0, h1.hb, hs, hn, cp, src, wrO, hCs, hNs, hCx, hsp, hCone]
  refine ⟨by rw [← hCs]; exact hCone, ?_⟩
  have hnow := h1.setNow L hok.1 hok.2
  rw [← hC] at hnow
  have hk2 : Kp [bn] w1 (setBlk w1 bn (.cells C Tn (0, 0))).drew := hnow.2.drew
  have h2 : DiskIs (setBlk w1 bn (.cells C Tn (0, 0))).drew b { sure := L, now := L, l := d.l, fuse := d.fuse, off := d.off } bs bn lv SL T Ts Tn := hnow.1.keep (Kp.refl [] _).drew (by simp)
  refine settles_spec ⟨bs, bn, lv, SL, T, Ts, Tn, rfl, h2⟩ fun w3 h3 hk3 => ?_
  obtain ⟨bs', bn', lv', SL', T', Ts', Tn', hS, h3⟩ := h3
  have hlv3 := live_of h3.hb
  have hhead := h3.head (-1) false (by omega) (by omega)
  simp only [List.cons.injEq, true_and] at hS
  obtain ⟨rfl, rfl, rfl⟩ := hS
  subst hL
  have := hK _ ⟨bs, bn, lv', SL, T', Ts', Tn', rfl, hhead.1⟩ ((((hk1.mono (by simp)).trans' (hk2.mono (by simp))).trans' hk3).trans' (hhead.2.mono (by simp)))
  simp [-getElem?_pos, -Array.getElem?_eq_getElem, -List.length_flatten, List.getElem?_cons_zero, List.getElem?_cons_succ, h3.hb, heap_self, hlv3]
  simpa [DK.settled] using this
end Go.Proofs
