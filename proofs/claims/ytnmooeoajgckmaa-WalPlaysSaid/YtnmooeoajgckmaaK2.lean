/- Part of the proof (K2): an engine, rules or contracts of the functions; it states nothing of the claim by itself. -/
import Derived.Test.YtnmooeoajgckmaaK1
import Derived.Lib.Builder
import Derived.Laws.Externs
import Derived.Lib.UnsafeStr
import Derived.ChangeArms
import Derived.DataReads

/- Layer 3, the disk: Flush and Crash. -/
set_option linter.unusedVariables false
set_option linter.unusedSimpArgs false
namespace Go.Proofs
open Go Go.Q
def applyAll (L : List (List UInt8)) (l : List (Nat × List UInt8)) : List (List UInt8) := l.foldl (fun L x => L.set x.1 x.2) L
def DK.flush (d : DK) : DK × Int :=
  if d.burns.2 = true then ({ d.burns.1 with sure := applyAll d.sure d.l, l := [] }, 0) else (d.burns.1, 30)
theorem applyAll_ok {n : Nat} : ∀ {l : List (Nat × List UInt8)} {L : List (List UInt8)}, (∀ x ∈ L, x.length = 32) → (∀ x ∈ l, x.1 < n ∧ x.2.length = 32) → (∀ x ∈ applyAll L l, x.length = 32) ∧ (applyAll L l).length = L.length := by
  intro l
  induction l with
  | nil => intro L hL _; exact ⟨hL, rfl⟩
  | cons y r ih =>
    intro L hL hl
    have := ih (L := L.set y.1 y.2) (fun x hx => by
      rcases List.mem_or_eq_of_mem_set hx with hx | hx
      · exact hL x hx
      · rw [hx]; exact (hl y (by simp)).2) (fun x hx => hl x (by simp [hx]))
    exact ⟨this.1, by rw [show applyAll L (y :: r) = applyAll (L.set y.1 y.2) r from rfl, this.2]; simp⟩
/-- the sure sectors are others -/
theorem DiskIs.setSure {w : World} {b : Nat} {d : DK} {bs bn : Nat} {lv : Value} {SL : List Nat} {T Ts Tn : Nat} (h : DiskIs w b d bs bn lv SL T Ts Tn) (L : List (List UInt8)) (hL : ∀ x ∈ L, x.length = 32) (hn : L.length = d.sure.length) :
    DiskIs (setBlk w bs (.cells (L.map u8c).flatten.toArray Ts (0, 0))) b { d with sure := L } bs bn lv SL T Ts Tn ∧ Kp [bs] w (setBlk w bs (.cells (L.map u8c).flatten.toArray Ts (0, 0))) := by
  obtain ⟨n1, n2, n3, n4, n5, n6, n7, n8, n9, n10⟩ := h.ne
  have hk : Kp [bs] w (setBlk w bs (.cells (L.map u8c).flatten.toArray Ts (0, 0))) := (Kp.refl _ _).setBlk (.inl (by simp)) _
  exact ⟨⟨hk.get h.hb (by simpa using n1), heap_self (live_of h.hs), hk.get h.hn (by simpa using n10), RowsAt.keep h.hl hk (fun x hx => by simp; intro hh; subst hh; exact n5 hx), h.nd,
    ⟨by rw [hn]; exact h.ok.len, h.ok.pos, h.ok.most, hL, h.ok.sz2, h.ok.szl, h.ok.f0, h.ok.f1⟩⟩, hk⟩
theorem DiskIs.keep {w w' : World} {b : Nat} {d : DK} {bs bn : Nat} {lv : Value} {SL : List Nat} {T Ts Tn : Nat} {S' : List Nat} (h : DiskIs w b d bs bn lv SL T Ts Tn) (hk : Kp S' w w') (hd : ∀ x ∈ b :: bs :: bn :: SL, x ∉ S') :
    DiskIs w' b d bs bn lv SL T Ts Tn :=
  ⟨hk.get h.hb (hd _ (by simp)), hk.get h.hs (hd _ (by simp)), hk.get h.hn (hd _ (by simp)), RowsAt.keep h.hl hk (fun x hx => hd x (by simp [hx])), h.nd, h.ok⟩
theorem DiskIs.live {w : World} {b : Nat} {d : DK} {bs bn : Nat} {lv : Value} {SL : List Nat} {T Ts Tn : Nat} (h : DiskIs w b d bs bn lv SL T Ts Tn) : ∀ x ∈ b :: bs :: bn :: SL, x < w.heap.size := by
  intro x hx
  simp only [List.mem_cons] at hx
  rcases hx with rfl | rfl | rfl | hx
  · exact live_of h.hb
  · exact live_of h.hs
  · exact live_of h.hn
  · exact RowsAt.lt h.hl x hx
theorem take_snoc {α : Type} {l : List α} {i : Nat} (hi : i < l.length) : l.take (i + 1) = l.take i ++ [l[i]] := by
  rw [List.take_succ_eq_append_getElem hi]
theorem Flush_loop {R : Value → World → Prop} {w0 : World} {b : Nat} {d : DK} {bs bn : Nat} {lv : Value} {SL : List Nat} {T Ts Tn : Nat} (h0 : DiskIs w0 b d bs bn lv SL T Ts Tn) (hlen : d.l.length < 2 ^ 40)
    (hend : ∀ w', DiskIs w' b { d with sure := applyAll d.sure d.l } bs bn lv SL T Ts Tn → Kp [bs] w0 w' → disk_Disk_Flush_s0 R (.pointer (some ⟨b, 0, none⟩)) w') :
    disk_Disk_Flush_L2 R (.pointer (some ⟨b, 0, none⟩)) lv (.int .i64 d.l.length) (.int .i64 0) w0 := by
  unfold disk_Disk_Flush_L2
  refine loop_inv (fun m xs w => ∃ i, i ≤ d.l.length ∧ m = d.l.length - i ∧ xs = [.pointer (some ⟨b, 0, none⟩), lv, .int .i64 d.l.length, .int .i64 i] ∧
    DiskIs w b { d with sure := applyAll d.sure (d.l.take i) } bs bn lv SL T Ts Tn ∧ Kp [bs] w0 w) ?_ (m := d.l.length) ⟨0, by omega, by omega, rfl, h0, Kp.refl _ _⟩
  rintro m N xs w ⟨i, hi, rfl, rfl, h, hk⟩ hN
  simp only [disk_Disk_Flush_L2F, disk_Disk_Flush_b1, bq_lss, bV_b]
  refine ⟨fun hlt => ?_, fun hge => ?_⟩
  · have hlt : i < d.l.length := by simpa using hlt
    obtain ⟨n1, n2, n3, n4, n5, n6, n7, n8, n9, n10⟩ := h.ne
    obtain ⟨bl, TF, c, hbl, hheap, hia, hle, hext, _⟩ := RowsAt.at h.hl (i := i) (by simpa using hlt)
    have hrow : (d.l.map encW)[i]'(by simpa using hlt) = encW d.l[i] := by simp
    simp only at hia hext
    rw [hrow] at hext
    have hx := h0.ok.szl d.l[i] (List.getElem_mem hlt)
    have hin := hN (d.l.length - (i + 1)) [.pointer (some ⟨b, 0, none⟩), lv, .int .i64 d.l.length, .int .i64 ((i + 1 : Nat) : Int)]
    have hencl : (encW d.l[i]).length = 33 := by simp [encW, hx.2]
    have hext2 : ((encW d.l[i]).toArray.extract 1 33) = (u8c d.l[i].2).toArray := by
      have := extract_list (encW d.l[i]) 1 32
      rw [this]
      have h32 : (u8c d.l[i].2).take 32 = u8c d.l[i].2 := List.take_of_length_le (by simp [hx.2])
      simp [encW, h32]
    have hzsz : (zc Try.prog 93).size = 33 := by rw [zc93]; simp
    have hsp : splice (zc Try.prog 93) 0 (encW d.l[i]).toArray = (encW d.l[i]).toArray := by
      have : (zc Try.prog 93).toList.drop 33 = [] := List.drop_of_length_le (by simp [hzsz])
      simp [splice, hencl, this]
    have hone : (encW d.l[i]).toArray.all one = true := by
      have := one_u8c d.l[i].2
      rw [List.all_toArray] at this ⊢
      simpa [encW] using this
    have hgen : ∀ k, k < w.heap.size → k ≠ w.heap.size := fun k hk => by omega
    obtain ⟨E, hE⟩ : ∃ E, E = (encW d.l[i]).toArray := ⟨_, rfl⟩
    have hE0 : E[0]? = some (.int .i64 d.l[i].1) := by rw [hE]; rfl
    have hEs : E.size = 33 := by rw [hE]; simpa using hencl
    rw [← hE] at hext hext2 hsp hone
    rw [hia]
    have hlb := live_of h.hb
    have hls := live_of h.hs
    have hks : Kp [] w (w.alloc (.cells E 93)) := (Kp.refl _ _).alloc _
    have h' := h.keep hks (by simp)
    have hiw : IntKind.i64.wrap ((i : Int) + 1) = ((i + 1 : Nat) : Int) := by rw [w64 (by omega) (by omega)]; simp
    simp [-getElem?_pos, -Array.getElem?_eq_getElem, -List.length_flatten, List.getElem?_cons_zero, List.getElem?_cons_succ, hheap, hle, hext, hEs, hzsz, hone, hsp, h.hb, heap_new, heap_old, hlb, hls, hE0, hext2, hx.1, h.hs, hiw]
    refine ⟨fun j hj => by rw [Array.all_eq_true] at hone; exact hone j (by omega), ?_⟩
    have hi1 : d.l[i].1 < (applyAll d.sure (d.l.take i)).length := by have := h.ok.len; simp only at this; omega
    have hsz := h.ok.sz1
    simp only at hsz
    have hcells := set_cells hsz hi1 hx.2
    rw [hcells]
    have hL : applyAll d.sure (d.l.take (i + 1)) = (applyAll d.sure (d.l.take i)).set d.l[i].1 d.l[i].2 := by unfold applyAll; rw [take_snoc hlt, List.foldl_append]; rfl
    have hset := h'.setSure ((applyAll d.sure (d.l.take i)).set d.l[i].1 d.l[i].2) (by
      intro x hx'
      rcases List.mem_or_eq_of_mem_set hx' with hx' | hx'
      · exact hsz x hx'
      · rw [hx']; exact hx.2) (by simp)
    have hkd : ∀ w, Kp [] w w.drew := fun w => (Kp.refl _ w).drew
    refine ⟨hx.2, ⟨by rw [rows_len hsz, hx.2]; omega, by have := one_u8c d.l[i].2; rw [List.all_toArray, List.all_eq_true] at this; exact this⟩, ?_⟩
    refine hin _ (by omega) ⟨i + 1, hlt, rfl, by simp, ?_, ?_⟩
    · rw [hL]; exact hset.1.keep (hkd _) (by simp)
    · exact (hk.trans' ((hks.mono (by simp)).trans' hset.2)).drew
  · have hie : i = d.l.length := by simp at hge; omega
    subst hie
    rw [List.take_length] at h
    exact hend w h hk

theorem Flush_spec {w : World} {b : Nat} {d : DK} {S : List Nat} (h : DiskAt w b d S) (hl : d.l.length < 2 ^ 40) {K : Value → World → Prop}
    (hK : ∀ w', DiskAt w' b d.flush.1 S → Kp S w w' → K (.int .i64 d.flush.2) w') : callG Try.prog 15 #[.pointer (some ⟨b, 0, none⟩)] w K := by
  refine disk_Disk_Flush_call ?_
  simp only [disk_Disk_Flush, disk_Disk_Flush_s4]
  refine Size_spec h ?_
  have hp : d.now ≠ [] := by
    obtain ⟨bs, bn, lv, SL, T, Ts, Tn, rfl, h⟩ := h
    intro hh; have := h.ok.pos; rw [hh] at this; simp at this
  suffices hmain : callG Try.prog 45 #[.pointer (some ⟨b, 0, none⟩)] w fun t11 w =>
      qG Try.prog (Op.unary .not t11) w fun t12 => bV t12 (K (.int .i64 30) w) (disk_Disk_Flush_s3 K (.pointer (some ⟨b, 0, none⟩)) w) by
    simpa [hp] using hmain
  refine burns_spec h fun w1 h1 hk1 => ?_
  obtain ⟨hnow, hlog, hsure⟩ := d.burns_now
  unfold DK.flush at hK
  have hbS : b ∈ S := by obtain ⟨bs, bn, lv, SL, T, Ts, Tn, rfl, _⟩ := h; simp
  have hk1' : Kp S w w1 := hk1.mono (by simpa using fun _ => hbS)
  cases hb2 : d.burns.2 with
  | false =>
    rw [hb2] at hK
    have := hK w1 h1 hk1'
    simpa using this
  | true =>
    rw [hb2] at hK
    simp only [if_true] at hK
    generalize hd1 : d.burns.1 = d1 at *
    obtain ⟨bs, bn, lv, SL, T, Ts, Tn, rfl, h1⟩ := h1
    obtain ⟨a, c, hlv⟩ := LogAt.len h1.hl
    suffices hmain : disk_Disk_Flush_L2 K (.pointer (some ⟨b, 0, none⟩)) lv (.int .i64 d1.l.length) (.int .i64 0) w1 by
      rw [hlv] at hmain
      simpa [disk_Disk_Flush_s3, h1.hb, hlv] using hmain
    refine Flush_loop h1 (by rw [hlog]; exact hl) fun w2 h2 hk2 => ?_
    simp only [disk_Disk_Flush_s0]
    refine settles_spec ⟨bs, bn, lv, SL, T, Ts, Tn, rfl, h2⟩ fun w3 h3 hk3 => ?_
    refine hK w3 ?_ ((hk1'.trans' (hk2.mono (by simp))).trans' hk3)
    rw [hsure, hlog] at h3
    exact h3

/-- what survives of the writes that are not sure -/
def crashL : List (Nat × List UInt8) → List Int → List (List UInt8) → List (List UInt8)
  | [], _, L => L
  | _ :: _, [], L => L
  | x :: l, k :: ks, L => crashL l ks (L.set x.1 (x.2.take (max 0 (min k 32)).toNat ++ (L.getD x.1 []).drop (max 0 (min k 32)).toNat))
def crash1 (x : Nat × List UInt8) (k : Option Int) (L : List (List UInt8)) : List (List UInt8) :=
  match k with
  | none => L
  | some k => L.set x.1 (x.2.take (max 0 (min k 32)).toNat ++ (L.getD x.1 []).drop (max 0 (min k 32)).toNat)
theorem crashL_snoc (x : Nat × List UInt8) : ∀ (l : List (Nat × List UInt8)) (ks : List Int) (L : List (List UInt8)), crashL (l ++ [x]) ks L = crash1 x ks[l.length]? (crashL l ks L) := by
  intro l
  induction l with
  | nil => intro ks L; cases ks <;> rfl
  | cons y r ih =>
    intro ks L
    cases ks with
    | nil => rfl
    | cons k ks => simp only [List.cons_append, crashL, ih]; rfl
theorem crashL_ok {n : Nat} : ∀ {l : List (Nat × List UInt8)} {ks : List Int} {L : List (List UInt8)}, (∀ x ∈ L, x.length = 32) → L.length = n → (∀ x ∈ l, x.1 < n ∧ x.2.length = 32) → (∀ x ∈ crashL l ks L, x.length = 32) ∧ (crashL l ks L).length = n := by
  intro l
  induction l with
  | nil => intro ks L hL hn _; exact ⟨hL, hn⟩
  | cons y r ih =>
    intro ks L hL hn hl
    cases ks with
    | nil => exact ⟨hL, hn⟩
    | cons k ks =>
      have hy := hl y (by simp)
      refine ih (fun x hx => ?_) (by simpa using hn) (fun x hx => hl x (by simp [hx]))
      rcases List.mem_or_eq_of_mem_set hx with hx | hx
      · exact hL x hx
      · have hg : (L.getD y.1 []).length = 32 := by
          have : y.1 < L.length := by omega
          simp only [List.getD, List.getElem?_eq_getElem this, Option.getD_some]
          exact hL _ (List.getElem_mem this)
        have hle : (max 0 (min k 32)).toNat ≤ 32 := by omega
        rw [hx, List.length_append, List.length_take, List.length_drop, hg, hy.2]; omega
def DK.crash (d : DK) (ks : List Int) : DK := { sure := crashL d.l ks d.sure, now := crashL d.l ks d.sure, l := [], fuse := -1, off := false }
end Go.Proofs

/- Layer 3, the disk: Crash. -/
set_option linter.unusedVariables false
set_option linter.unusedSimpArgs false
namespace Go.Proofs
open Go Go.Q
theorem pre_cells {L : List (List UInt8)} (h : ∀ x ∈ L, x.length = 32) {i : Nat} (hi : i < L.length) {s : List UInt8} (hs : s.length ≤ 32) :
    splice (L.map u8c).flatten.toArray (i * 32) (u8c s).toArray = ((L.set i (s ++ (L.getD i []).drop s.length)).map u8c).flatten.toArray := by
  rw [splice_list, flat_splice (k := 32) (by intro x hx; rw [List.mem_map] at hx; obtain ⟨y, hy, rfl⟩ := hx; simp [h y hy]) (by simpa using hi) (by simp [hs])]
  congr 2
  rw [List.map_set]
  congr 1
  rw [u8c_append, ← u8c_drop]
  simp [List.getD, hi]
/-- the sectors as written are others -/
theorem DiskIs.setNow {w : World} {b : Nat} {d : DK} {bs bn : Nat} {lv : Value} {SL : List Nat} {T Ts Tn : Nat} (h : DiskIs w b d bs bn lv SL T Ts Tn) (L : List (List UInt8)) (hL : ∀ x ∈ L, x.length = 32) (hn : L.length = d.now.length) :
    DiskIs (setBlk w bn (.cells (L.map u8c).flatten.toArray Tn (0, 0))) b { d with now := L } bs bn lv SL T Ts Tn ∧ Kp [bn] w (setBlk w bn (.cells (L.map u8c).flatten.toArray Tn (0, 0))) := by
  obtain ⟨n1, n2, n3, n4, n5, n6, n7, n8, n9, n10⟩ := h.ne
  have hk : Kp [bn] w (setBlk w bn (.cells (L.map u8c).flatten.toArray Tn (0, 0))) := (Kp.refl _ _).setBlk (.inl (by simp)) _
  exact ⟨⟨by simp only [hn]; exact hk.get h.hb (by simpa using n2), hk.get h.hs (by simpa using n4), heap_self (live_of h.hn), RowsAt.keep h.hl hk (fun x hx => by simp; intro hh; subst hh; exact n6 hx), h.nd,
    ⟨by simp only [hn]; exact h.ok.len, by simp only [hn]; exact h.ok.pos, by simp only [hn]; exact h.ok.most, h.ok.sz1, hL, by simp only [hn]; exact h.ok.szl, h.ok.f0, h.ok.f1⟩⟩, hk⟩
theorem Crash_loop {R : Value → World → Prop} {w0 : World} {b : Nat} {d : DK} {bs bn : Nat} {lv kv : Value} {ks : List Int} {SK : List Nat} {SL : List Nat} {T Ts Tn : Nat} (h0 : DiskIs w0 b d bs bn lv SL T Ts Tn) (hlen : d.l.length < 2 ^ 40)
    (hks : IntsAt w0 kv ks SK) (hdis : ∀ x ∈ SK, x ∉ b :: bs :: bn :: SL) (hkw : ∀ x ∈ ks, -9223372036854775808 ≤ x ∧ x < 9223372036854775808)
    (hend : ∀ w', DiskIs w' b { d with sure := crashL d.l ks d.sure } bs bn lv SL T Ts Tn → Kp [bs] w0 w' → disk_Disk_Crash_s0 R (.pointer (some ⟨b, 0, none⟩)) w') :
    disk_Disk_Crash_L2 R (.pointer (some ⟨b, 0, none⟩)) kv lv (.int .i64 d.l.length) (.int .i64 0) w0 := by
  unfold disk_Disk_Crash_L2
  have hstart : crashL (d.l.take 0) ks d.sure = d.sure := rfl
  refine loop_inv (fun m xs w => ∃ i, i ≤ d.l.length ∧ m = d.l.length - i ∧ xs = [.pointer (some ⟨b, 0, none⟩), kv, lv, .int .i64 d.l.length, .int .i64 i] ∧
    DiskIs w b { d with sure := crashL (d.l.take i) ks d.sure } bs bn lv SL T Ts Tn ∧ Kp [bs] w0 w) ?_ (m := d.l.length) ⟨0, by omega, by omega, rfl, by rw [hstart]; exact h0, Kp.refl _ _⟩
  rintro m N xs w ⟨i, hi, rfl, rfl, h, hk⟩ hN
  simp only [disk_Disk_Crash_L2F, disk_Disk_Crash_b1, bq_lss, bV_b]
  refine ⟨fun hlt => ?_, fun hge => ?_⟩
  · have hlt : i < d.l.length := by simpa using hlt
    have hks' : IntsAt w kv ks SK := hks.keep hk (fun x hx => by
      have := hdis x hx
      simp only [List.mem_cons, not_or] at this
      simp [this.2.1])
    obtain ⟨n1, n2, n3, n4, n5, n6, n7, n8, n9, n10⟩ := h.ne
    obtain ⟨bl, TF, c, hbl, hheap, hia, hle, hext, _⟩ := RowsAt.at h.hl (i := i) (by simpa using hlt)
    have hrow : (d.l.map encW)[i]'(by simpa using hlt) = encW d.l[i] := by simp
    simp only at hia hext
    rw [hrow] at hext
    have hx := h0.ok.szl d.l[i] (List.getElem_mem hlt)
    have hin := hN (d.l.length - (i + 1)) [.pointer (some ⟨b, 0, none⟩), kv, lv, .int .i64 d.l.length, .int .i64 ((i + 1 : Nat) : Int)]
    have hencl : (encW d.l[i]).length = 33 := by simp [encW, hx.2]
    have hzsz : (zc Try.prog 93).size = 33 := by rw [zc93]; simp
    have hsp : splice (zc Try.prog 93) 0 (encW d.l[i]).toArray = (encW d.l[i]).toArray := by
      have : (zc Try.prog 93).toList.drop 33 = [] := List.drop_of_length_le (by simp [hzsz])
      simp [splice, hencl, this]
    have hone : (encW d.l[i]).toArray.all one = true := by
      have := one_u8c d.l[i].2
      rw [List.all_toArray] at this ⊢
      simpa [encW] using this
    obtain ⟨E, hE⟩ : ∃ E, E = (encW d.l[i]).toArray := ⟨_, rfl⟩
    have hE0 : E[0]? = some (.int .i64 d.l[i].1) := by rw [hE]; rfl
    have hEs : E.size = 33 := by rw [hE]; simpa using hencl
    have hEx : ∀ n, n ≤ 32 → E.extract 1 (1 + n) = (u8c (d.l[i].2.take n)).toArray := by
      intro n hn
      rw [hE, extract_list, ← u8c_take]
      simp [encW]
    rw [← hE] at hext hsp hone
    have hlb := live_of h.hb
    have hls := live_of h.hs
    have hks1 : Kp [] w (w.alloc (.cells E 93)) := (Kp.refl _ _).alloc _
    have h' := h.keep hks1 (by simp)
    have hiw : IntKind.i64.wrap ((i : Int) + 1) = ((i + 1 : Nat) : Int) := by rw [w64 (by omega) (by omega)]; simp
    obtain ⟨ka, kc, hkv⟩ := hks'.len
    have hkl : ∀ K : Value → Prop, lenL kv K = K (.int .i64 ks.length) := by intro K; rw [hkv]; rfl
    have hi1 : d.l[i].1 < (crashL (d.l.take i) ks d.sure).length := by have := h.ok.len; simp only at this; omega
    have hsz := h.ok.sz1
    simp only at hsz
    have hL : crashL (d.l.take (i + 1)) ks d.sure = crash1 d.l[i] ks[i]? (crashL (d.l.take i) ks d.sure) := by
      rw [take_snoc hlt, crashL_snoc]; simp [Nat.min_eq_left hi]
    have hkd : ∀ w, Kp [] w w.drew := fun w => (Kp.refl _ w).drew
    rw [hia]
    by_cases hik : i < ks.length
    · obtain ⟨bk, ok, ck, Tk, frk, hbk, hkheap, hkia, hkc⟩ := hks'.at hik
      have hkne := live_of hkheap
      obtain ⟨q, hq⟩ : ∃ q, q = ks.getD i 0 := ⟨_, rfl⟩
      rw [← hq] at hkc
      have hki : ks[i]? = some q := by rw [hq]; simp [List.getD, hik]
      obtain ⟨n, hn⟩ : ∃ n, n = (max 0 (min q 32)).toNat := ⟨_, rfl⟩
      have hnq : max 0 (min q 32) = (n : Int) := by omega
      have hn32 : n ≤ 32 := by omega
      have hpre := pre_cells hsz hi1 (s := d.l[i].2.take n) (by simp; omega)
      have hmin : Nat.min 32 n = n := Nat.min_eq_right hn32
      have htl : (d.l[i].2.take n).length = n := by simp [hx.2, hn32]
      rw [htl] at hpre
      have honep := one_u8c (d.l[i].2.take n)
      obtain ⟨X, hX⟩ : ∃ X, X = (u8c (d.l[i].2.take n)).toArray := ⟨_, rfl⟩
      have hEX : E.extract 1 (1 + n) = X := by rw [hEx n hn32, hX]
      have hXs : X.size = n := by rw [hX]; simpa using htl
      rw [← hX] at hpre honep
      simp [-getElem?_pos, -Array.getElem?_eq_getElem, -List.length_flatten, List.getElem?_cons_zero, List.getElem?_cons_succ, hheap, hle, hext, hEs, hzsz, hone, hsp, h.hb, heap_new, heap_old, hlb, hls, hE0, hx.1, h.hs, hiw, hkl, hik, hkia, hkheap, hkc, hkne, hnq, hn32, cp, src, wrO, hmin, hEX, hXs, hpre]
      have hset := h'.setSure ((crashL (d.l.take i) ks d.sure).set d.l[i].1 (d.l[i].2.take n ++ ((crashL (d.l.take i) ks d.sure).getD d.l[i].1 []).drop n)) (by
        intro x hx'
        have hok := crashL_ok (n := d.now.length) (ks := ks) (l := d.l.take (i + 1)) h0.ok.sz1 (by have := h0.ok.len; exact this) (fun x hx => h0.ok.szl x (List.mem_of_mem_take hx))
        rw [hL, hki] at hok
        simp only [crash1, ← hn] at hok
        exact hok.1 x hx') (by simp)
      refine ⟨fun j hj => by rw [Array.all_eq_true] at hone; exact hone j (by omega), by omega, by omega, ⟨by rw [rows_len hsz]; omega, by rw [show min (1 + n) 33 - 1 = X.size by omega]; exact honep⟩, ?_⟩
      refine hin _ (by omega) ⟨i + 1, hlt, rfl, by simp, ?_, ?_⟩
      · rw [hL, hki]; simp only [crash1, ← hn]
        have := hset.1.keep (hkd _) (by simp)
        simpa using this
      · have := (hk.trans' ((hks1.mono (by simp)).trans' hset.2)).drew
        simpa using this
    · have hki : ks[i]? = none := by simp; omega
      simp [-getElem?_pos, -Array.getElem?_eq_getElem, -List.length_flatten, List.getElem?_cons_zero, List.getElem?_cons_succ, hheap, hle, hext, hEs, hzsz, hone, hsp, h.hb, heap_new, heap_old, hlb, hls, hE0, hx.1, h.hs, hiw, hkl, hik]
      refine ⟨fun j hj => by rw [Array.all_eq_true] at hone; exact hone j (by omega), ?_⟩
      refine hin _ (by omega) ⟨i + 1, hlt, rfl, by simp, ?_, hk.trans' (hks1.mono (by simp))⟩
      rw [hL, hki]
      exact h'
  · have hie : i = d.l.length := by simp at hge; omega
    subst hie
    rw [List.take_length] at h
    exact hend w h hk

theorem Crash_spec {w : World} {b : Nat} {d : DK} {S : List Nat} (h : DiskAt w b d S) (hl : d.l.length < 2 ^ 40) {kv : Value} {ks : List Int} {SK : List Nat} (hks : IntsAt w kv ks SK) (hdis : ∀ x ∈ SK, x ∉ S)
    (hkw : ∀ x ∈ ks, -9223372036854775808 ≤ x ∧ x < 9223372036854775808) {K : Value → World → Prop}
    (hK : ∀ w', DiskAt w' b (d.crash ks) S → Kp S w w' → K (.int .i64 0) w') : callG Try.prog 16 #[.pointer (some ⟨b, 0, none⟩), kv] w K := by
  refine disk_Disk_Crash_call ?_
  simp only [disk_Disk_Crash, disk_Disk_Crash_s4]
  refine Size_spec h ?_
  obtain ⟨bs, bn, lv, SL, T, Ts, Tn, rfl, h⟩ := h
  have hp : d.now ≠ [] := by intro hh; have := h.ok.pos; rw [hh] at this; simp at this
  obtain ⟨a, c, hlv⟩ := LogAt.len h.hl
  suffices hmain : disk_Disk_Crash_L2 K (.pointer (some ⟨b, 0, none⟩)) kv lv (.int .i64 d.l.length) (.int .i64 0) w by
    rw [hlv] at hmain
    simpa [hp, disk_Disk_Crash_s3, h.hb, hlv] using hmain
  refine Crash_loop h hl hks hdis hkw fun w1 h1 hk1 => ?_
  obtain ⟨n1, n2, n3, n4, n5, n6, n7, n8, n9, n10⟩ := h1.ne
  have hok := crashL_ok (n := d.now.length) (ks := ks) (l := d.l) h.ok.sz1 h.ok.len h.ok.szl
  -- now is what is sure
  obtain ⟨L, hL⟩ : ∃ L, L = crashL d.l ks d.sure := ⟨_, rfl⟩
  rw [← hL] at hok h1
  obtain ⟨C, hC⟩ : ∃ C, C = (L.map u8c).flatten.toArray := ⟨_, rfl⟩
  obtain ⟨N, hN⟩ : ∃ N, N = (d.now.map u8c).flatten.toArray := ⟨_, rfl⟩
  have hs := h1.hs
  have hn := h1.hn
  simp only at hs hn
  rw [← hC] at hs
  rw [← hN] at hn
  have hCs : C.size = d.now.length * 32 := by
    have := rows_len hok.1
    rw [hok.2] at this
    rw [hC]; exact this
  have hNs : N.size = d.now.length * 32 := by
    have := rows_len h.ok.sz2
    rw [hN]; exact this
  have hCone : C.all one = true := by
    rw [hC, List.all_toArray, List.all_eq_true]
    intro x hx
    rw [List.mem_flatten] at hx
    obtain ⟨y, hy, hxy⟩ := hx
    rw [List.mem_map] at hy
    obtain ⟨z, _, rfl⟩ := hy
    have := one_u8c z
    rw [List.all_toArray, List.all_eq_true] at this
    exact this x hxy
  have hCx : C.extract 0 (d.now.length * 32) = C := by rw [← hCs]; simp
  have hsp : splice N 0 C = C := by
    have : N.toList.drop C.size = [] := List.drop_of_length_le (by simp [hNs, hCs])
    simp [splice, this]
  have hlb := live_of h1.hb
  have hln := live_of h1.hn
  simp [-getElem?_pos, -Array.getElem?_eq_getElem, -List.length_flatten, List.getElem?_cons_zero, List.getElem?_cons_succ, disk_Disk_Crash_s0, h1.hb, hs, hn, cp, src, wrO, hCs, hNs, hCx, hsp, hCone]
  refine ⟨by rw [← hCs]; exact hCone, ?_⟩
  have hnow := h1.setNow L hok.1 hok.2
  rw [← hC] at hnow
  have hk2 : Kp [bn] w1 (setBlk w1 bn (.cells C Tn (0, 0))).drew := hnow.2.drew
  have h2 : DiskIs (setBlk w1 bn (.cells C Tn (0, 0))).drew b { sure := L, now := L, l := d.l, fuse := d.fuse, off := d.off } bs bn lv SL T Ts Tn := hnow.1.keep (Kp.refl [] _).drew (by simp)
  refine settles_spec ⟨bs, bn, lv, SL, T, Ts, Tn, rfl, h2⟩ fun w3 h3 hk3 => ?_
  obtain ⟨bs', bn', lv', SL', T', Ts', Tn', hS, h3⟩ := h3
  have hlv3 := live_of h3.hb
  have hhead := h3.head (-1) false (by omega) (by omega)
  simp only [List.cons.injEq, true_and] at hS
  obtain ⟨rfl, rfl, rfl⟩ := hS
  subst hL
  have := hK _ ⟨bs, bn, lv', SL, T', Ts', Tn', rfl, hhead.1⟩ ((((hk1.mono (by simp)).trans' (hk2.mono (by simp))).trans' hk3).trans' (hhead.2.mono (by simp)))
  simp [-getElem?_pos, -Array.getElem?_eq_getElem, -List.length_flatten, List.getElem?_cons_zero, List.getElem?_cons_succ, h3.hb, heap_self, hlv3]
  simpa [DK.settled] using this
end Go.Proofs

/- Layer 3: the statements' helpers: filled, awake. -/
set_option linter.unusedVariables false
set_option linter.unusedSimpArgs false
namespace Go.Proofs
open Go Go.Q
theorem zc5 : zc Try.prog 5 = #[.int .u8 0] := by kernel_rfl
theorem rep5 (n : Nat) : rep (zc Try.prog 5) n = (u8c (List.replicate n 0)).toArray := by
  have := rep_replicate (.int .u8 0) 1 n (by omega)
  rw [zc5]
  simpa [u8c] using this
def fill32 (c : UInt8) : List UInt8 := List.replicate 32 c
@[simp] theorem fill32_len (c : UInt8) : (fill32 c).length = 32 := by simp [fill32]
theorem filled_spec {w : World} (c : UInt8) {K : Value → World → Prop} (hK : ∀ w', Kp [] w w' → K (.string (str (fill32 c))) w') : callG Try.prog 14 #[.int .u8 c.toNat] w K := by
  refine law03_filled_call ?_
  simp only [law03_filled, law03_filled_s4, law03_filled_s3]
  suffices hmain : law03_filled_L2 K (.int .u8 c.toNat) (.slice (some ⟨w.heap.size, 0, none⟩) 32 32) (.int .i64 0) (w.alloc (.cells (u8c (List.replicate 32 0)).toArray 5)) by
    simpa [mkG, rep5] using hmain
  unfold law03_filled_L2
  refine loop_inv (fun m xs w1 => ∃ i, i ≤ 32 ∧ m = 32 - i ∧ xs = [.int .u8 c.toNat, .slice (some ⟨w.heap.size, 0, none⟩) 32 32, .int .i64 (i : Nat)] ∧
    w1 = w.alloc (.cells (u8c (List.replicate i c ++ List.replicate (32 - i) 0)).toArray 5)) ?_ (m := 32) ⟨0, by omega, rfl, rfl, rfl⟩
  rintro m N xs w1 ⟨i, hi, rfl, rfl, rfl⟩ hN
  simp only [law03_filled_L2F, law03_filled_b1, bq_lss, bV_b]
  refine ⟨fun hlt => ?_, fun hge => ?_⟩
  · have hlt : i < 32 := by simp at hlt; omega
    have hin := hN (32 - (i + 1)) _ _ (by omega) ⟨i + 1, by omega, rfl, rfl, rfl⟩
    have hcells : (u8c (List.replicate i c ++ List.replicate (32 - i) 0)).set i (.int .u8 c.toNat) = u8c (List.replicate (i + 1) c ++ List.replicate (32 - (i + 1)) 0) := by
      have : 32 - i = (32 - (i + 1)) + 1 := by omega
      rw [this, List.replicate_succ, List.replicate_succ']
      simp [u8c]
    have hiw : IntKind.i64.wrap ((i : Int) + 1) = ((i + 1 : Nat) : Int) := by rw [w64 (by omega) (by omega)]; simp
    have hlen : (u8c (List.replicate i c ++ List.replicate (32 - i) 0)).length = 32 := by simp; omega
    obtain ⟨C, hC⟩ : ∃ C, C = u8c (List.replicate i c ++ List.replicate (32 - i) 0) := ⟨_, rfl⟩
    obtain ⟨C', hC'⟩ : ∃ C', C' = u8c (List.replicate (i + 1) c ++ List.replicate (32 - (i + 1)) 0) := ⟨_, rfl⟩
    rw [← hC, ← hC'] at hcells
    rw [← hC] at hlen
    rw [← hC'] at hin
    rw [← hC]
    simp [-getElem?_pos, -Array.getElem?_eq_getElem, -List.length_flatten, List.getElem?_cons_zero, List.getElem?_cons_succ, heap_new, hlen, hlt, hcells, hiw]
    refine ⟨by omega, ?_⟩
    simpa using hin
  · have hie : i = 32 := by simp at hge; omega
    subst hie
    have hlen : (u8c (List.replicate 32 c)).length = 32 := by simp
    have hK' := hK (w.alloc (.cells (u8c (List.replicate 32 c)).toArray 5)) ((Kp.refl _ _).alloc _)
    have ht : List.take 32 (u8c (List.replicate 32 c)) = u8c (List.replicate 32 c) := List.take_of_length_le (by simp)
    have hb := bytesOf_u8c (List.replicate 32 c)
    obtain ⟨C, hC⟩ : ∃ C, C = u8c (List.replicate 32 c) := ⟨_, rfl⟩
    simp only [Nat.sub_self, List.replicate_zero, List.append_nil]
    rw [← hC] at hlen ht hb hK' ⊢
    simp [-getElem?_pos, -Array.getElem?_eq_getElem, -List.length_flatten, List.getElem?_cons_zero, List.getElem?_cons_succ, law03_filled_s0, cvBS, heap_new, hlen, ht, hb]
    exact hK'

/-- a disk of the call's own: nothing that was there when the call began has turned -/
structure Own (w0 w : World) (b : Nat) (d : DK) (S : List Nat) : Prop where
  at_ : DiskAt w b d S
  kp : Kp [] w0 w
  new : ∀ x ∈ S, w0.heap.size ≤ x
theorem Own.keep {w0 w w' : World} {b : Nat} {d : DK} {S : List Nat} (h : Own w0 w b d S) (hk : Kp [] w w') : Own w0 w' b d S := ⟨h.at_.keep hk (by simp), h.kp.trans' hk, h.new⟩
theorem Own.next {w0 w w' : World} {b : Nat} {d d' : DK} {S S' : List Nat} (h : Own w0 w b d S) (h' : DiskAt w' b d' S') (hk : Kp S w w') (hS : ∀ x ∈ S', x ∈ S ∨ w.heap.size ≤ x) : Own w0 w' b d' S' :=
  ⟨h', h.kp.trans hk (fun x hx hlt => by have := h.new x hx; omega), fun x hx => by
    rcases hS x hx with hx | hx
    · exact h.new x hx
    · have := h.kp.size; omega⟩
theorem own_new {w0 w : World} (hk0 : Kp [] w0 w) {n : Nat} (h1 : 1 ≤ n) (h2 : n ≤ 4096) {K : Value → World → Prop}
    (hK : ∀ w' b S, Own w0 w' b (DK.fresh n) S → Kp [] w w' → K (.tuple #[.pointer (some ⟨b, 0, none⟩), .int .i64 0]) w') : callG Try.prog 12 #[.int .i64 n] w K :=
  New_ok h1 h2 fun w' b S hd hk hS => hK w' b S ⟨hd, hk0.trans' hk, fun x hx => by have := hS x hx; have := hk0.size; omega⟩ hk
theorem own_write {w0 w : World} {b : Nat} {d : DK} {S : List Nat} (h : Own w0 w b d S) (hl : d.l.length < 2 ^ 40) (at_ : Int) (s : List UInt8) {K : Value → World → Prop}
    (hK : ∀ w' S', Own w0 w' b (d.write at_ s).1 S' → Kp S w w' → (∀ x ∈ S', x ∈ S ∨ w.heap.size ≤ x) → K (.int .i64 (d.write at_ s).2) w') :
    callG Try.prog 13 #[.pointer (some ⟨b, 0, none⟩), .int .i64 at_, .string (str s)] w K :=
  Write_spec h.at_ hl at_ s fun w' S' hd hk hS => hK w' S' (h.next hd hk hS) hk hS
theorem own_flush {w0 w : World} {b : Nat} {d : DK} {S : List Nat} (h : Own w0 w b d S) (hl : d.l.length < 2 ^ 40) {K : Value → World → Prop}
    (hK : ∀ w', Own w0 w' b d.flush.1 S → Kp S w w' → K (.int .i64 d.flush.2) w') : callG Try.prog 15 #[.pointer (some ⟨b, 0, none⟩)] w K :=
  Flush_spec h.at_ hl fun w' hd hk => hK w' (h.next hd hk fun _ h => .inl h) hk
theorem own_crash {w0 w : World} {b : Nat} {d : DK} {S : List Nat} (h : Own w0 w b d S) (hl : d.l.length < 2 ^ 40) {kv : Value} {ks : List Int} {SK : List Nat} (hks : IntsAt w kv ks SK) (hdis : ∀ x ∈ SK, x ∉ S)
    (hkw : ∀ x ∈ ks, -9223372036854775808 ≤ x ∧ x < 9223372036854775808) {K : Value → World → Prop}
    (hK : ∀ w', Own w0 w' b (d.crash ks) S → Kp S w w' → K (.int .i64 0) w') : callG Try.prog 16 #[.pointer (some ⟨b, 0, none⟩), kv] w K :=
  Crash_spec h.at_ hl hks hdis hkw fun w' hd hk => hK w' (h.next hd hk fun _ h => .inl h) hk
theorem own_fuse {w0 w : World} {b : Nat} {d : DK} {S : List Nat} (h : Own w0 w b d S) (n : Int) (hn : n < 9223372036854775808) {K : Value → World → Prop}
    (hK : ∀ w', Own w0 w' b { d with fuse := max n (-1) } S → Kp S w w' → K (.int .i64 0) w') : callG Try.prog 23 #[.pointer (some ⟨b, 0, none⟩), .int .i64 n] w K :=
  Fuse_spec h.at_ n hn fun w' hd hk => by
    have hb : b ∈ S := by obtain ⟨bs, bn, lv, SL, T, Ts, Tn, rfl, _⟩ := h.at_; simp
    have hk' : Kp S w w' := hk.mono (by simpa using fun _ => hb)
    exact hK w' (h.next hd hk' fun _ h => .inl h) hk'
def awD1 : DK := ((DK.fresh 2).write 0 (fill32 97)).1
def awD2 : DK := awD1.flush.1
def awD3 : DK := (awD2.write 0 (fill32 98)).1
def awD4 : DK := awD3.crash [5]
theorem zc3 : zc Try.prog 3 = #[.int .i64 0] := by kernel_rfl
theorem awake_spec {w : World} {K : Value → World → Prop} (hK : ∀ w', Kp [] w w' → K (.bool true) w') : callG Try.prog 18 #[] w K := by
  refine law03_awake_call ?_
  simp only [law03_awake, law03_awake_s2]
  refine own_new (n := 2) (Kp.refl [] w) (by omega) (by omega) fun w1 b S1 o1 _ => ?_
  simp [-getElem?_pos, -Array.getElem?_eq_getElem, -List.length_flatten, List.getElem?_cons_zero, List.getElem?_cons_succ, ]
  refine filled_spec 97 fun w2 hk2 => ?_
  refine own_write (o1.keep hk2) (by simp [DK.fresh]) 0 (fill32 97) fun w3 S3 o3 _ _ => ?_
  have e3 : ((DK.fresh 2).write 0 (fill32 97)).2 = 0 := by decide
  simp [-getElem?_pos, -Array.getElem?_eq_getElem, -List.length_flatten, List.getElem?_cons_zero, List.getElem?_cons_succ, e3]
  refine own_flush o3 (by decide) fun w4 o4 _ => ?_
  have e4 : ((DK.fresh 2).write 0 (fill32 97)).1.flush.2 = 0 := by decide
  simp [-getElem?_pos, -Array.getElem?_eq_getElem, -List.length_flatten, List.getElem?_cons_zero, List.getElem?_cons_succ, e4]
  refine filled_spec 98 fun w5 hk5 => ?_
  refine own_write (o4.keep hk5) (by decide) 0 (fill32 98) fun w6 S6 o6 _ _ => ?_
  have e6 : (((DK.fresh 2).write 0 (fill32 97)).1.flush.1.write 0 (fill32 98)).2 = 0 := by decide
  simp [-getElem?_pos, -Array.getElem?_eq_getElem, -List.length_flatten, List.getElem?_cons_zero, List.getElem?_cons_succ, e6]
  refine Waits_spec o6.at_ ?_
  have e7 : (((DK.fresh 2).write 0 (fill32 97)).1.flush.1.write 0 (fill32 98)).1.l.length = 1 := by decide
  simp [-getElem?_pos, -Array.getElem?_eq_getElem, -List.length_flatten, List.getElem?_cons_zero, List.getElem?_cons_succ, e7]
  simp only [law03_awake_s1]
  refine Read_spec o6.at_ 0 ?_
  have e8 : (((DK.fresh 2).write 0 (fill32 97)).1.flush.1.write 0 (fill32 98)).1.read 0 = (fill32 98, 0) := by decide
  simp [-getElem?_pos, -Array.getElem?_eq_getElem, -List.length_flatten, List.getElem?_cons_zero, List.getElem?_cons_succ, e8]
  refine filled_spec 98 fun w8 hk8 => ?_
  have o8 := o6.keep hk8
  simp [-getElem?_pos, -Array.getElem?_eq_getElem, -List.length_flatten, List.getElem?_cons_zero, List.getElem?_cons_succ, bsl_one]
  have hk9 : Kp [] w8 (w8.alloc (.cells #[.int .i64 5] 3)) := (Kp.refl _ _).alloc _
  have o9 := o8.keep hk9
  have hks : IntsAt (w8.alloc (.cells #[.int .i64 5] 3)) (.slice (some ⟨w8.heap.size, 0, none⟩) 1 1) [5] [w8.heap.size] :=
    ⟨_, 1, rfl, .inr ⟨_, 0, _, _, _, rfl, rfl, heap_new, fun i hi => by have : i = 0 := by simpa using hi
                                                                        subst this; rfl⟩⟩
  have hdis : ∀ x ∈ [w8.heap.size], x ∉ S6 := by
    intro x hx hx6
    simp only [List.mem_singleton] at hx
    subst hx
    obtain ⟨bs, bn, lv, SL, T, Ts, Tn, rfl, h⟩ := o8.at_
    exact absurd (h.live _ hx6) (by omega)
  rw [bsl_one rfl]
  refine own_crash o9 (by decide) hks hdis (by simp) fun w10 o10 _ => ?_
  simp [-getElem?_pos, -Array.getElem?_eq_getElem, -List.length_flatten, List.getElem?_cons_zero, List.getElem?_cons_succ, ]
  simp only [law03_awake_s0]
  refine Read_spec o10.at_ 0 ?_
  have e10 : ((((DK.fresh 2).write 0 (fill32 97)).1.flush.1.write 0 (fill32 98)).1.crash [5]).read 0 = ((fill32 98).take 5 ++ (fill32 97).drop 5, 0) := by decide
  simp [-getElem?_pos, -Array.getElem?_eq_getElem, -List.length_flatten, List.getElem?_cons_zero, List.getElem?_cons_succ, e10]
  refine filled_spec 98 fun w11 hk11 => ?_
  simp [-getElem?_pos, -Array.getElem?_eq_getElem, -List.length_flatten, List.getElem?_cons_zero, List.getElem?_cons_succ, ]
  refine filled_spec 97 fun w12 hk12 => ?_
  have o12 := (o10.keep ((Kp.refl _ _).drew.trans' hk11)).keep hk12
  have e12 : List.drop 5 (List.take 32 (fill32 97)) = List.drop 5 (fill32 97) := by decide
  simp [-getElem?_pos, -Array.getElem?_eq_getElem, -List.length_flatten, List.getElem?_cons_zero, List.getElem?_cons_succ, bq_sadd, str_extract, e12]
  refine Size_spec o12.at_ ?_
  have e13 : ((((DK.fresh 2).write 0 (fill32 97)).1.flush.1.write 0 (fill32 98)).1.crash [5]).now.length = 2 := by decide
  simp [-getElem?_pos, -Array.getElem?_eq_getElem, -List.length_flatten, List.getElem?_cons_zero, List.getElem?_cons_succ, e13]
  refine Waits_spec o12.at_ ?_
  simpa [DK.crash] using hK w12 o12.kp
end Go.Proofs

/- Layer 2: bytes of a sum, and back; the document's sums. -/
set_option linter.unusedVariables false
set_option linter.unusedSimpArgs false
namespace Go.Proofs
open Go Go.Q
theorem cvBS_str {w : World} {b cap T : Nat} {fr : Nat × Nat} {l : List UInt8} (h : w.heap[b]? = some (.cells (u8c l).toArray T fr)) {n : Nat} (hn : n = l.length) {K : Value → Prop} :
    cvBS (.slice (some ⟨b, 0, none⟩) n cap) w K = K (.string (str l)) := by
  subst hn
  have ht : List.take l.length (u8c l) = u8c l := List.take_of_length_le (by simp)
  have hb := bytesOf_u8c l
  have hl : (u8c l).length = l.length := by simp
  obtain ⟨C, hC⟩ : ∃ C, C = u8c l := ⟨_, rfl⟩
  rw [← hC] at h ht hb hl
  simp [-getElem?_pos, -Array.getElem?_eq_getElem, cvBS, h, hl, ht, hb]
  rfl
def putB (x : Int) (k : Nat) : UInt8 := UInt8.ofNat ((x / 2 ^ (8 * k)) % 256).toNat
def put4 (x : Int) : List UInt8 := [putB x 0, putB x 1, putB x 2, putB x 3]
theorem zc119 : zc Try.prog 119 = (u8c [0, 0, 0, 0]).toArray := by kernel_rfl
theorem putB_wrap (x : Int) (k : Nat) : IntKind.u8.wrap (x / 2 ^ (8 * k)) = ((putB x k).toNat : Int) := by
  obtain ⟨y, hy⟩ : ∃ y, y = x / 2 ^ (8 * k) := ⟨_, rfl⟩
  have : putB x k = UInt8.ofNat (y % 256).toNat := by rw [hy]; rfl
  rw [this, ← hy]
  simp [IntKind.wrap, IntKind.bits, IntKind.signed]
  omega
theorem Put_spec {w : World} (x : Int) {K : Value → World → Prop} (hK : ∀ w', Kp [] w w' → K (.string (str (put4 x))) w') : callG Try.prog 50 #[.int .i64 x] w K := by
  refine crc_Put_call ?_
  simp only [crc_Put, crc_Put_s4, crc_Put_s3, newG_k, zc119]
  obtain ⟨a, ha⟩ : ∃ a, a = w.heap.size := ⟨_, rfl⟩
  obtain ⟨w1, hw1⟩ : ∃ w1, w1 = w.alloc (.cells (u8c [0, 0, 0, 0]).toArray 119) := ⟨_, rfl⟩
  have hk1 : Kp [] w w1 := by rw [hw1]; exact (Kp.refl [] w).alloc _
  have hA : w1.heap[a]? = some (.cells (u8c [0, 0, 0, 0]).toArray 119) := by rw [hw1, ha]; exact heap_new
  rw [← ha, ← hw1]
  unfold crc_Put_L2
  refine loop_inv (fun m xs w' => ∃ i, i ≤ 4 ∧ m = 4 - i ∧ xs = [.int .i64 x, .pointer (some ⟨a, 0, none⟩), .int .i64 (i : Nat)] ∧ Kp [] w w' ∧ w'.heap[a]? = some (.cells (u8c ((put4 x).take i ++ List.replicate (4 - i) 0)).toArray 119))
    ?_ (m := 4) ⟨0, by omega, rfl, rfl, hk1, hA⟩
  rintro m N xs w' ⟨i, hi, rfl, rfl, hk, hA⟩ hN
  simp only [crc_Put_L2F, crc_Put_b1, bq_lss, bV_b]
  refine ⟨fun h => ?_, fun h => ?_⟩
  · have hi : i < 4 := by simp at h; omega
    have hiw : IntKind.i64.wrap ((i : Int) + 1) = ((i + 1 : Nat) : Int) := by rw [w64 (by omega) (by omega)]; simp
    have h8 : IntKind.i64.wrap (8 * (i : Int)) = ((8 * i : Nat) : Int) := by rw [w64 (by omega) (by omega)]; simp
    simp only [bq_mul, h8]
    rw [shr_of (by omega) (by simp [IntKind.bits]; omega), Int.toNat_natCast]
    simp only [cvI_i, putB_wrap]
    have hset : (u8c ((put4 x).take i ++ List.replicate (4 - i) 0)).set i (.int .u8 (putB x i).toNat) = u8c ((put4 x).take (i + 1) ++ List.replicate (4 - (i + 1)) 0) := by
      match i, hi with
      | 0, _ => rfl
      | 1, _ => rfl
      | 2, _ => rfl
      | 3, _ => rfl
    have hlen : (u8c ((put4 x).take i ++ List.replicate (4 - i) 0)).length = 4 := by simp [put4]; omega
    obtain ⟨C, hC⟩ : ∃ C, C = u8c ((put4 x).take i ++ List.replicate (4 - i) 0) := ⟨_, rfl⟩
    obtain ⟨C', hC'⟩ : ∃ C', C' = u8c ((put4 x).take (i + 1) ++ List.replicate (4 - (i + 1)) 0) := ⟨_, rfl⟩
    rw [← hC] at hA hset hlen
    rw [← hC'] at hset
    have hi4 : (i : Int) < 4 := by omega
    simp [-getElem?_pos, -Array.getElem?_eq_getElem, -List.length_flatten, List.getElem?_cons_zero, List.getElem?_cons_succ, hA, hlen, hi, hi4, hset, hiw]
    exact hN (4 - (i + 1)) _ _ (by omega) ⟨i + 1, by omega, rfl, rfl, hk.setBlk (.inr (by omega)) _, by rw [← hC']; exact heap_self (live_of hA)⟩
  · have hie : i = 4 := by simp at h; omega
    subst hie
    have hp : (put4 x).take 4 ++ List.replicate (4 - 4) 0 = put4 x := rfl
    rw [hp] at hA
    unfold crc_Put_s0
    simp only [slA_p, bnd_none]
    have e : (if 4 = 0 then 0 else 0 + 0 * 1) = 0 := rfl
    simp only [e]
    rw [cvBS_str (n := 4 - 0) hA rfl]
    exact hK _ hk
theorem take4_get {s : List UInt8} (h : ¬ s.length < 4) : ∃ a b c d r, s = a :: b :: c :: d :: r := by
  match s, h with
  | a :: b :: c :: d :: r, _ => exact ⟨a, b, c, d, r, rfl⟩
  | [], h => simp at h
  | [_], h => simp at h
  | [_, _], h => simp at h
  | [_, _, _], h => simp at h
theorem or_add {x y k : Nat} (hx : x < 2 ^ k) : x ||| (y * 2 ^ k) = x + y * 2 ^ k := by
  rw [Nat.or_comm, Nat.add_comm, Nat.mul_comm]
  exact (Nat.two_pow_add_eq_or_of_lt hx y).symm
def takeN (s : List UInt8) : Nat → Nat
  | 0 => 0
  | i + 1 => takeN s i + (s.getD i 0).toNat * 2 ^ (8 * i)
theorem takeN_lt (s : List UInt8) : ∀ i, takeN s i < 2 ^ (8 * i) := by
  intro i
  induction i with
  | zero => simp [takeN]
  | succ i ih =>
    have hb := (s.getD i 0).toNat_lt
    have : (s.getD i 0).toNat * 2 ^ (8 * i) ≤ 255 * 2 ^ (8 * i) := Nat.mul_le_mul_right _ (by omega)
    have h2 : 2 ^ (8 * (i + 1)) = 256 * 2 ^ (8 * i) := by rw [Nat.mul_succ, Nat.pow_add]; omega
    simp only [takeN]
    omega
theorem Take_spec {w : World} (s : List UInt8) (hs : s.length < 2 ^ 62) {K : Value → World → Prop} (hK : K (.int .i64 (if s.length < 4 then -1 else (takeN s 4 : Nat))) w) : callG Try.prog 69 #[.string (str s)] w K := by
  refine crc_Take_call ?_
  simp only [crc_Take, crc_Take_s4, lenS_s, str_size, bq_lss, bV_b]
  refine ⟨fun h => ?_, fun h => ?_⟩
  · have h : s.length < 4 := by simp at h; omega
    rw [if_pos h] at hK; exact hK
  · have h : ¬ s.length < 4 := by simp at h; omega
    rw [if_neg h] at hK
    unfold crc_Take_s3 crc_Take_L2
    refine loop_inv (fun m xs w' => ∃ i, i ≤ 4 ∧ m = 4 - i ∧ xs = [.string (str s), .int .i64 (takeN s i : Nat), .int .i64 (i : Nat)] ∧ w' = w)
      ?_ (m := 4) ⟨0, by omega, rfl, rfl, rfl⟩
    rintro m N xs w' ⟨i, hi, rfl, rfl, rfl⟩ hN
    simp only [crc_Take_L2F, crc_Take_b1, bq_lss, bV_b]
    refine ⟨fun h4 => ?_, fun h4 => ?_⟩
    · have hi : i < 4 := by simp at h4; omega
      have hi' : i < s.length := by omega
      have hiw : IntKind.i64.wrap ((i : Int) + 1) = ((i + 1 : Nat) : Int) := by rw [w64 (by omega) (by omega)]; simp
      have h8 : IntKind.i64.wrap (8 * (i : Int)) = ((8 * i : Nat) : Int) := by rw [w64 (by omega) (by omega)]; simp
      have hin := hN (4 - (i + 1)) _ w' (by omega) ⟨i + 1, by omega, rfl, rfl, rfl⟩
      have hg : s.getD i 0 = s[i] := by simp [List.getD, hi']
      have ht : takeN s (i + 1) = takeN s i + s[i].toNat * 2 ^ (8 * i) := by rw [← hg]; rfl
      have hlt := takeN_lt s i
      have hlt' := takeN_lt s (i + 1)
      rw [ht] at hin hlt'
      have hb := s[i].toNat_lt
      have hp : 2 ^ (8 * (i + 1)) ≤ 2 ^ 32 := Nat.pow_le_pow_right (by omega) (by omega)
      have hp' : 2 ^ (8 * i) ≤ 2 ^ 32 := Nat.pow_le_pow_right (by omega) (by omega)
      rw [ixS_str hi']
      simp only [cvI_i, wrap_nat64 (show s[i].toNat < 2 ^ 63 by omega), bq_mul, h8]
      rw [shl_of (by omega) (by simp [IntKind.bits]; omega), Int.toNat_natCast]
      have hc : ((s[i].toNat : Int) * 2 ^ (8 * i)) = ((s[i].toNat * 2 ^ (8 * i) : Nat) : Int) := by simp
      rw [hc, wrap_nat64 (by omega), or64_of (by omega) (by omega), or_add hlt]
      simp only [bq_add, hiw]
      exact hin
    · have hie : i = 4 := by simp at h4; omega
      subst hie
      exact hK
end Go.Proofs

/- strings.Builder: what each function of it does. -/
set_option linter.unusedVariables false
set_option linter.unusedSimpArgs false
namespace Go.Proofs
open Go Go.Q
theorem info_some {t : TypeId} {n : Nat} (h : szO Try.prog t = some n) : ∃ j, Try.prog.info? t = some j ∧ j.size = n := by
  unfold szO at h
  cases hi : Try.prog.info? t with
  | none => rw [hi] at h; cases h
  | some j => rw [hi] at h; exact ⟨j, rfl, by simpa using h⟩
theorem Try.sz107 : szO Try.prog 107 = some 2 := by kernel_rfl
theorem Try.cellsOf5 : Try.prog.cellsOf 5 = 1 := by kernel_rfl
theorem bq_psame {xo yo : Operand} {w : World} {a : Addr} {K : Value → Prop} : qG Try.prog (bq .neq 105 xo yo (.pointer (some a)) (.pointer (some a))) w K = K (.bool false) := by
  obtain ⟨j, hj, _⟩ := info_some Try.sz107
  refine qG_of ((run_equal1 (P := Try.prog) (T := 105) (x := .pointer (some a)) (y := .pointer (some a)) (w := w) (b := true) ?_ (fun _ _ h => by cases h.1) (fun h => by cases h.1) xo yo rfl rfl).2)
  have h := Go.Lib.run_neq_ptr_same (P := Try.prog) w a Try.underlying105 hj
  have h2 : ∀ d : Nat, (Op.equalIn (d + 1) 105 (.pointer (some a)) (.pointer (some a))).run Try.prog w = .ok true w := fun d => by
    simp [Op.equalIn, Go.run_underlying Try.underlying105, sizeOf, typeInfo, hj, Go.run_sameAddr_same]
  simp [Op.equal, Op.maxDepth, h2 9999]
theorem to_unsafe {w : World} {b : Nat} {cs : Array Value} {fr : Nat × Nat} (hb : w.heap[b]? = some (.cells cs 107 fr)) (hs : cs.size = 2) {K : Value → World → Prop} (hK : K (.pointer (some ⟨b, 0, none⟩)) w) :
    eG Try.prog (convert 105 122 (.pointer (some ⟨b, 0, none⟩))) w K := by
  obtain ⟨j, hj, hsz⟩ := info_some Try.sz107
  exact ⟨_, w, Go.Lib.run_to_unsafe (P := Try.prog) (cells := 2) (e := 107) w ⟨b, 0, none⟩ Try.underlying105 Try.underlying122 hj (by omega) (by simp [World.shape?, hb, hs]) (Nat.zero_lt_succ 1), hK⟩
theorem from_unsafe {w : World} {b : Nat} {cs : Array Value} {fr : Nat × Nat} (hb : w.heap[b]? = some (.cells cs 107 fr)) (hs : cs.size = 2) {K : Value → World → Prop} (hK : K (.pointer (some ⟨b, 0, none⟩)) w) :
    eG Try.prog (convert 122 105 (.pointer (some ⟨b, 0, none⟩))) w K := by
  obtain ⟨j, hj, hsz⟩ := info_some Try.sz107
  exact ⟨_, w, Go.Lib.run_from_unsafe (P := Try.prog) (cells := 2) (e := 107) w ⟨b, 0, none⟩ Try.underlying122 Try.underlying105 hj (by simp [World.shape?, hb, hs]) (by kernel_rfl), hK⟩
theorem no_escape {w : World} {x : Value} {K : Value → World → Prop} (hK : K x w) : nG Try.prog (callFunc 71 #[x]) w K := by
  refine ⟨x, w, ?_, hK⟩
  rw [run_callFunc_extern (e := Extern.AbiNoEscape.same) Try.func71 (by kernel_rfl) rfl (by kernel_rfl) (by kernel_rfl)]
  rfl
def byteV (c : UInt8) : List Value := [.int .u8 c.toNat]
theorem byteV_flat (l : List UInt8) : (l.map byteV).flatten = u8c l := by
  induction l with
  | nil => rfl
  | cons c l ih => simp only [List.map_cons, List.flatten_cons, ih]; rfl
/-- a builder's buffer, frozen or not -/
def BufT (w : World) (v : Value) (l : List UInt8) (S : List Nat) : Prop :=
  (v = .slice none 0 0 ∧ l = [] ∧ S = []) ∨
  ∃ (bl cap : Nat) (c : Array Value) (fr : Nat × Nat), v = .slice (some ⟨bl, 0, none⟩) l.length cap ∧ S = [bl] ∧ w.heap[bl]? = some (.cells c 5 fr) ∧ l ≠ [] ∧ l.length ≤ c.size ∧ l.length ≤ cap ∧ c.toList.take l.length = u8c l
/-- a builder that may be written on -/
def Bld (w : World) (b : Nat) (l : List UInt8) (S : List Nat) : Prop :=
  ∃ p v SB, w.heap[b]? = some (.cells #[p, v] 107) ∧ (p = .pointer none ∨ p = .pointer (some ⟨b, 0, none⟩)) ∧ RowsT w v 1 5 (l.map byteV) SB ∧ (l = [] → v = .slice none 0 0) ∧ S = b :: SB ∧ b ∉ SB
/-- a builder that is read -/
def BldD (w : World) (b : Nat) (l : List UInt8) (S : List Nat) : Prop :=
  ∃ p v SB, w.heap[b]? = some (.cells #[p, v] 107) ∧ BufT w v l SB ∧ S = b :: SB ∧ b ∉ SB
theorem Bld.keep {w w' : World} {b : Nat} {l : List UInt8} {S S' : List Nat} (h : Bld w b l S) (hk : Kp S' w w') (hd : ∀ x ∈ S, x ∉ S') : Bld w' b l S := by
  obtain ⟨p, v, SB, h1, h2, h3, h4, rfl, h5⟩ := h
  exact ⟨p, v, SB, hk.get h1 (hd b (by simp)), h2, h3.keep hk (fun x hx => hd x (by simp [hx])), h4, rfl, h5⟩
theorem BufT.keep {w w' : World} {v : Value} {l : List UInt8} {S S' : List Nat} (h : BufT w v l S) (hk : Kp S' w w') (hd : ∀ x ∈ S, x ∉ S') : BufT w' v l S := by
  rcases h with h | ⟨bl, cap, c, fr, h1, rfl, h3, h4⟩
  · exact .inl h
  · exact .inr ⟨bl, cap, c, fr, h1, rfl, hk.get h3 (hd bl (by simp)), h4⟩
theorem BldD.keep {w w' : World} {b : Nat} {l : List UInt8} {S S' : List Nat} (h : BldD w b l S) (hk : Kp S' w w') (hd : ∀ x ∈ S, x ∉ S') : BldD w' b l S := by
  obtain ⟨p, v, SB, h1, h2, rfl, h5⟩ := h
  exact ⟨p, v, SB, hk.get h1 (hd b (by simp)), h2.keep hk (fun x hx => hd x (by simp [hx])), rfl, h5⟩
theorem Bld.done {w : World} {b : Nat} {l : List UInt8} {S : List Nat} (h : Bld w b l S) : BldD w b l S := by
  obtain ⟨p, v, SB, h1, h2, h3, h4, rfl, h5⟩ := h
  refine ⟨p, v, SB, h1, ?_, rfl, h5⟩
  by_cases hl : l = []
  · have hv := h4 hl
    subst hl
    rcases h3 with ⟨_, _, h6⟩ | ⟨bl, F, h7, _⟩
    · exact .inl ⟨hv, rfl, h6⟩
    · rw [hv] at h7; cases h7
  · rcases h3 with ⟨_, h6, _⟩ | ⟨bl, F, h7, h8, h9, h10, h11, h12⟩
    · exact absurd (by simpa using h6) hl
    · have hfl := flat_len h10
      simp only [List.length_map] at h7 h11 h12
      refine .inr ⟨bl, F.length, F.flatten.toArray, (0, 0), by rw [h7], h8, h9, hl, ?_, h12, ?_⟩
      · simp only [List.size_toArray, hfl]; omega
      · have := flat_take l.length h10
        rw [Nat.mul_one] at this
        rw [this, h11, byteV_flat]
theorem Bld.live {w : World} {b : Nat} {l : List UInt8} {S : List Nat} (h : Bld w b l S) : ∀ x ∈ S, x < w.heap.size := by
  obtain ⟨p, v, SB, h1, h2, h3, h4, rfl, h5⟩ := h
  intro x hx
  rcases List.mem_cons.1 hx with rfl | hx
  · exact lt_of_blk h1
  · exact h3.at_.lt x hx
theorem bld_new {w : World} : Bld (w.alloc (.cells #[.pointer none, .slice none 0 0] 107)) w.heap.size [] [w.heap.size] :=
  ⟨.pointer none, .slice none 0 0, [], heap_new, .inl rfl, .inl ⟨rfl, rfl, rfl⟩, fun _ => rfl, rfl, by simp⟩
theorem copy_spec {w : World} {b : Nat} {l : List UInt8} {S : List Nat} (h : Bld w b l S) {K : Value → World → Prop} (hK : ∀ w', Bld w' b l S → Kp S w w' → K (.tuple #[]) w') : callG Try.prog 70 #[.pointer (some ⟨b, 0, none⟩)] w K := by
  refine strings_Builder_copyCheck_call ?_
  have h0 := h
  obtain ⟨p, v, SB, h1, h2, h3, h4, rfl, h5⟩ := h
  simp only [strings_Builder_copyCheck, strings_Builder_copyCheck_s0]
  rcases h2 with rfl | rfl
  · simp [-getElem?_pos, -Array.getElem?_eq_getElem, -List.length_flatten, List.getElem?_cons_zero, List.getElem?_cons_succ, h1]
    refine to_unsafe h1 rfl ?_
    refine no_escape ?_
    refine from_unsafe h1 rfl ?_
    have lb := live_of h1
    simp [-getElem?_pos, -Array.getElem?_eq_getElem, -List.length_flatten, List.getElem?_cons_zero, List.getElem?_cons_succ, h1, lb]
    have hk : Kp [b] w (setBlk w b (.cells #[.pointer (some ⟨b, 0, none⟩), v] 107)) := (Kp.refl _ w).setBlk (.inl (by simp)) _
    refine hK _ ⟨_, v, SB, heap_self lb, .inr rfl, h3.keep hk (fun x hx => by simp; intro hh; exact h5 (hh ▸ hx)), h4, rfl, h5⟩ (hk.mono fun x hx _ => by simp at hx; simp [hx])
  · simp [-getElem?_pos, -Array.getElem?_eq_getElem, -List.length_flatten, List.getElem?_cons_zero, List.getElem?_cons_succ, h1]
    rw [bq_psame]
    simp [-getElem?_pos, -Array.getElem?_eq_getElem, -List.length_flatten, List.getElem?_cons_zero, List.getElem?_cons_succ, ]
    exact hK w h0 (Kp.refl _ _)
end Go.Proofs

/- DiskSure: what is flushed survives. -/
set_option linter.unusedVariables false
set_option linter.unusedSimpArgs false
namespace Go.Proofs
open Go Go.Q
theorem burns_calm {d : DK} (h1 : d.off = false) (h2 : d.fuse = -1) : d.burns = (d, true) := by
  cases d
  simp only at h1 h2
  subst h1; subst h2
  simp [DK.burns]
theorem write_calm {d : DK} (h1 : d.off = false) (h2 : d.fuse = -1) {i : Nat} (hi : i < d.now.length) {s : List UInt8} (hs : s.length = 32) :
    d.write i s = ({ d with now := d.now.set i s, l := d.l ++ [(i, s)] }, 0) := by
  unfold DK.write
  rw [burns_calm h1 h2, if_pos ⟨⟨by omega, by omega⟩, hs⟩, if_pos rfl]
  simp
theorem flush_calm {d : DK} (h1 : d.off = false) (h2 : d.fuse = -1) : d.flush = ({ d with sure := applyAll d.sure d.l, l := [] }, 0) := by
  unfold DK.flush
  rw [burns_calm h1 h2, if_pos rfl]
def let0 (base : Nat) (i : Nat) : UInt8 := UInt8.ofNat (base + i)
/-- the sectors, so many of them written -/
def secA (n : Nat) : List (List UInt8) := (List.range 16).map fun j => fill32 (if j < n then let0 97 j else 0)
def logA (n : Nat) : List (Nat × List UInt8) := (List.range n).map fun j => (j, fill32 (let0 97 j))
def bitOf (again : Int) (i : Nat) : Bool := decide (again / 2 ^ i % 2 = 1)
theorem secA_len (n : Nat) : (secA n).length = 16 := by simp [secA]
theorem secA_zero : secA 0 = secs0 16 := by decide
theorem secA_set {i : Nat} (hi : i < 16) : (secA i).set i (fill32 (let0 97 i)) = secA (i + 1) := by
  apply List.ext_getElem
  · simp [secA]
  · intro j h1 h2
    simp only [secA, List.getElem_set, List.getElem_map, List.getElem_range]
    by_cases hj : i = j
    · subst hj; simp
    · simp only [hj, if_false]
      have : (j < i) = (j < i + 1) := by apply propext; omega
      simp only [this]
theorem logA_succ (i : Nat) : logA i ++ [(i, fill32 (let0 97 i))] = logA (i + 1) := by simp [logA, List.range_succ]
theorem applyA : ∀ n, n ≤ 16 → applyAll (secs0 16) (logA n) = secA n := by
  intro n
  induction n with
  | zero => intro _; rw [secA_zero]; rfl
  | succ n ih =>
    intro h
    rw [← logA_succ, ← secA_set (by omega), ← ih (by omega)]
    unfold applyAll
    rw [List.foldl_append]; rfl
/-- one write at most to each sector: what a crash leaves there -/
theorem crashL_get {p : Nat} : ∀ {l : List (Nat × List UInt8)} {ks : List Int} {L : List (List UInt8)}, (l.map (·.1)).Nodup →
    (p ∉ l.map (·.1) → (crashL l ks L).getD p [] = L.getD p []) := by
  intro l
  induction l with
  | nil => intro ks L _ _; rfl
  | cons x r ih =>
    intro ks L hn hp
    cases ks with
    | nil => rfl
    | cons k ks =>
      simp only [List.map_cons, List.nodup_cons, List.mem_cons, not_or] at hn hp
      show (crashL r ks _).getD p [] = _
      rw [ih hn.2 hp.2]
      have : ¬ x.1 = p := fun h => hp.1 h.symm
      simp [List.getD, List.getElem?_set_ne this]
theorem crashL_at {p : Nat} {s : List UInt8} : ∀ {l1 l2 : List (Nat × List UInt8)} {ks : List Int} {L : List (List UInt8)}, ((l1 ++ (p, s) :: l2).map (·.1)).Nodup → p < L.length →
    (crashL (l1 ++ (p, s) :: l2) ks L).getD p [] = (match ks[l1.length]? with | none => L.getD p [] | some k => s.take (max 0 (min k 32)).toNat ++ (L.getD p []).drop (max 0 (min k 32)).toNat) := by
  intro l1
  induction l1 with
  | nil =>
    intro l2 ks L hn hp
    cases ks with
    | nil => rfl
    | cons k ks =>
      simp only [List.nil_append, List.map_cons, List.nodup_cons] at hn
      show (crashL l2 ks _).getD p [] = _
      rw [crashL_get hn.2 hn.1]
      simp [List.getD, hp]
  | cons x r ih =>
    intro l2 ks L hn hp
    cases ks with
    | nil => rfl
    | cons k ks =>
      simp only [List.cons_append, List.map_cons, List.nodup_cons] at hn
      have hx : ¬ x.1 = p := fun h => hn.1 (by simp [h])
      show (crashL (r ++ (p, s) :: l2) ks _).getD p [] = _
      rw [ih hn.2 (by simpa using hp)]
      have : (L.set x.1 (x.2.take (max 0 (min k 32)).toNat ++ (L.getD x.1 []).drop (max 0 (min k 32)).toNat)).getD p [] = L.getD p [] := by simp [List.getD, List.getElem?_set_ne hx]
      simp only [this, List.length_cons, List.getElem?_cons_succ]
def logB (again : Int) (n : Nat) : List (Nat × List UInt8) := ((List.range n).filter (bitOf again)).map fun j => (j, fill32 (let0 65 j))
theorem logB_succ (again : Int) (i : Nat) : logB again (i + 1) = if bitOf again i = true then logB again i ++ [(i, fill32 (let0 65 i))] else logB again i := by
  unfold logB
  rw [List.range_succ, List.filter_append]
  split
  · rename_i h; simp [h]
  · rename_i h; simp [h]
theorem logB_nodup (again : Int) (n : Nat) : ((logB again n).map (·.1)).Nodup := by
  unfold logB
  rw [List.map_map]
  have : ((fun x : Nat × List UInt8 => x.1) ∘ fun j => (j, fill32 (let0 65 j))) = id := by funext j; rfl
  rw [this, List.map_id]
  exact List.Pairwise.sublist List.filter_sublist List.nodup_range
theorem logB_split (again : Int) {i n : Nat} (hi : i < n) (hb : bitOf again i = true) : ∃ l2, logB again n = logB again i ++ (i, fill32 (let0 65 i)) :: l2 := by
  induction n with
  | zero => omega
  | succ n ih =>
    by_cases h : i = n
    · subst h; exact ⟨[], by rw [logB_succ, if_pos hb]⟩
    · obtain ⟨l2, h2⟩ := ih (by omega)
      rw [logB_succ]
      split
      · exact ⟨l2 ++ [(n, fill32 (let0 65 n))], by rw [h2]; simp⟩
      · exact ⟨l2, h2⟩
theorem logB_not (again : Int) {i n : Nat} (hb : bitOf again i = false) : i ∉ (logB again n).map (·.1) := by
  unfold logB
  simp only [List.map_map, List.mem_map, List.mem_filter, List.mem_range, Function.comp]
  rintro ⟨j, ⟨_, hj⟩, hji⟩
  subst hji
  rw [hb] at hj; cases hj
/-- what a sector reads as behind the crash -/
def behind (n : Nat) (again : Int) (ks : List Int) (i : Nat) : List UInt8 :=
  let k : Int := if bitOf again i = true then (match ks[(logB again i).length]? with | none => 0 | some k => max 0 (min k 32)) else 0
  (fill32 (let0 65 i)).take k.toNat ++ (fill32 (if i < n then let0 97 i else 0)).drop k.toNat
theorem crash_behind (n : Nat) (again : Int) (ks : List Int) {i : Nat} (hi : i < 16) : (crashL (logB again 16) ks (secA n)).getD i [] = behind n again ks i := by
  have hget : (secA n).getD i [] = fill32 (if i < n then let0 97 i else 0) := by simp [secA, List.getD, hi]
  unfold behind
  cases hb : bitOf again i with
  | true =>
    obtain ⟨l2, h2⟩ := logB_split again hi hb
    have hn := logB_nodup again 16
    rw [h2] at hn ⊢
    rw [crashL_at hn (by rw [secA_len]; exact hi), hget]
    split <;> simp_all
  | false =>
    rw [crashL_get (logB_nodup again 16) (logB_not again hb), hget]
    simp

theorem let0_nat {a i : Nat} (h : a + i < 256) : ((let0 a i).toNat : Int) = a + i := by
  unfold let0
  simp
  omega
theorem wrap_u8 {x : Int} (h0 : 0 ≤ x) (h1 : x < 256) : IntKind.u8.wrap x = x := by
  simp [IntKind.wrap, IntKind.bits, IntKind.signed]; omega
def dA (i n : Nat) : DK := { sure := secs0 16, now := secA i, l := logA i, fuse := -1, off := false }
def dB (n : Nat) (again : Int) (i : Nat) : DK := { sure := secA n, now := applyAll (secA n) (logB again i), l := logB again i, fuse := -1, off := false }
def dC (n : Nat) (again : Int) (ks : List Int) : DK := { sure := crashL (logB again 16) ks (secA n), now := crashL (logB again 16) ks (secA n), l := [], fuse := -1, off := false }
section
variable {w0 : World} {b n : Nat} {again : Int} {kv : Value} {ks : List Int} {SK : List Nat}

theorem sure_end {R : Value → World → Prop} (hR : ∀ w', Kp [] w0 w' → R (.bool true) w') {w : World} (hk : Kp [] w0 w) : law03_DiskSure_s0 R w := by
  unfold law03_DiskSure_s0
  exact awake_spec fun w' hk' => hR w' (hk.trans' hk')
theorem sure_loop3 {R : Value → World → Prop} (hR : ∀ w', Kp [] w0 w' → R (.bool true) w') (hn : n ≤ 16) (ha : -9223372036854775808 ≤ again ∧ again < 9223372036854775808)
    (hks : IntsAt w0 kv ks SK) (hkw : ∀ x ∈ ks, -9223372036854775808 ≤ x ∧ x < 9223372036854775808) {w : World} {S : List Nat} (o : Own w0 w b (dC n again ks) S) :
    law03_DiskSure_L6 R (.int .i64 again) kv (.pointer (some ⟨b, 0, none⟩)) (.int .i64 n) (.int .i64 0) (.int .i64 0) w := by
  unfold law03_DiskSure_L6
  refine loop_inv (fun m xs w => ∃ i, i ≤ 16 ∧ m = 16 - i ∧ xs = [.int .i64 again, kv, .pointer (some ⟨b, 0, none⟩), .int .i64 n, .int .i64 (logB again i).length, .int .i64 (i : Nat)] ∧ Own w0 w b (dC n again ks) S)
    ?_ (m := 16) ⟨0, by omega, rfl, rfl, o⟩
  rintro m N xs w ⟨i, hi, rfl, rfl, o⟩ hN
  simp only [law03_DiskSure_L6F, law03_DiskSure_s5, bq_lss, bV_b]
  refine ⟨fun hlt => ?_, fun hge => sure_end hR o.kp⟩
  have hlt : i < 16 := by simp at hlt; omega
  have hks' := hks.keep o.kp (by simp)
  obtain ⟨ka, kc, hkv⟩ := hks'.len
  have hkl : ∀ K : Value → Prop, lenL kv K = K (.int .i64 ks.length) := by intro K; rw [hkv]; rfl
  have hin : ∀ w', Own w0 w' b (dC n again ks) S → N [.int .i64 again, kv, .pointer (some ⟨b, 0, none⟩), .int .i64 n, .int .i64 (logB again (i + 1)).length, .int .i64 ((i + 1 : Nat) : Int)] w' :=
    fun w' o' => hN (16 - (i + 1)) _ _ (by omega) ⟨i + 1, by omega, rfl, rfl, o'⟩
  have hlen : (logB again i).length ≤ i := by
    unfold logB; rw [List.length_map]
    exact Nat.le_trans (List.length_filter_le _ _) (by simp)
  have hiw : IntKind.i64.wrap ((i : Int) + 1) = ((i + 1 : Nat) : Int) := by rw [w64 (by omega) (by omega)]; simp
  -- behind the choice of 'k'
  have tail : ∀ (k : Nat) (w : World), Own w0 w b (dC n again ks) S → k ≤ 32 → behind n again ks i = (fill32 (let0 65 i)).take k ++ (fill32 (if i < n then let0 97 i else 0)).drop k →
      law03_DiskSure_s2 R N (.int .i64 again) kv (.pointer (some ⟨b, 0, none⟩)) (.int .i64 n) (.int .i64 (logB again (i + 1)).length) (.int .i64 i) (.string (str (fill32 (if i < n then let0 97 i else 0)))) (.int .i64 k) w := by
    intro k w o hk hbe
    unfold law03_DiskSure_s2
    refine Read_spec o.at_ i ?_
    have hnowl : (dC n again ks).now.length = 16 := by
      have := crashL_ok (n := 16) (l := logB again 16) (ks := ks) (L := secA n) (by intro x hx; simp only [secA, List.mem_map] at hx; obtain ⟨j, _, rfl⟩ := hx; simp) (secA_len n) (by
        intro x hx; simp only [logB, List.mem_map, List.mem_filter, List.mem_range] at hx; obtain ⟨j, hj, rfl⟩ := hx; simp; omega)
      exact this.2
    have hread : (dC n again ks).read i = (behind n again ks i, 0) := by
      unfold DK.read
      rw [if_pos ⟨by omega, by rw [hnowl]; omega⟩, if_neg (by simp [dC]), Int.toNat_natCast]
      rw [← crash_behind n again ks hlt]; rfl
    have hA : IntKind.u8.wrap (65 + (i : Int)) = ((let0 65 i).toNat : Int) := by rw [wrap_u8 (by omega) (by omega), let0_nat (by omega)]; rfl
    have hw65 : IntKind.i64.wrap (65 + (i : Int)) = 65 + (i : Int) := w64 (by omega) (by omega)
    simp [-getElem?_pos, -Array.getElem?_eq_getElem, -List.length_flatten, List.getElem?_cons_zero, List.getElem?_cons_succ, hread, hw65, hA, hk]
    refine filled_spec (let0 65 i) fun w2 hk2 => ?_
    have ht : List.take 32 (fill32 (if i < n then let0 97 i else 0)) = fill32 (if i < n then let0 97 i else 0) := List.take_of_length_le (by simp)
    simp [-getElem?_pos, -Array.getElem?_eq_getElem, -List.length_flatten, List.getElem?_cons_zero, List.getElem?_cons_succ, bq_sadd, str_extract, hbe, hk, ht]
    refine ⟨by omega, ?_⟩
    simp only [law03_DiskSure_s1, bq_add, hiw]
    exact hin _ ((o.keep (Kp.refl _ _).drew).keep hk2)
  -- the bits
  have bits : ∀ (w : World), Own w0 w b (dC n again ks) S → law03_DiskSure_s3 R N (.int .i64 again) kv (.pointer (some ⟨b, 0, none⟩)) (.int .i64 n) (.int .i64 (logB again i).length) (.int .i64 i) (.string (str (fill32 (if i < n then let0 97 i else 0)))) w := by
    intro w o
    unfold law03_DiskSure_s3
    rw [shr_of (by omega) (by simp [IntKind.bits]; omega)]
    have hb : ((again / 2 ^ (i : Int).toNat % 2) = 1) = (bitOf again i = true) := by simp [bitOf]
    have hb2 : decide ((again / 2 ^ (i : Int).toNat % 2) = 1) = bitOf again i := by simp [bitOf]
    simp only [and1, bq_eql, bV_b, hb2]
    refine ⟨fun hbt => ?_, fun hbf => ?_⟩
    · have hl1 : (logB again (i + 1)).length = (logB again i).length + 1 := by rw [logB_succ, if_pos hbt]; simp
      have hw1 : IntKind.i64.wrap (((logB again i).length : Int) + 1) = ((logB again (i + 1)).length : Int) := by rw [w64 (by omega) (by omega), hl1]; simp
      rw [hkl]
      by_cases hj : (logB again i).length < ks.length
      · have hks' := hks.keep o.kp (by simp)
        obtain ⟨bk, ok, ck, Tk, frk, hbk, hkheap, hkia, hkc⟩ := hks'.at hj
        obtain ⟨q, hq⟩ : ∃ q, q = ks.getD (logB again i).length 0 := ⟨_, rfl⟩
        rw [← hq] at hkc
        have hki : ks[(logB again i).length]? = some q := by rw [hq]; simp [List.getD, hj]
        obtain ⟨k, hk⟩ : ∃ k, k = (max 0 (min q 32)).toNat := ⟨_, rfl⟩
        have hkq : max 0 (min q 32) = (k : Int) := by omega
        have hbe : behind n again ks i = (fill32 (let0 65 i)).take k ++ (fill32 (if i < n then let0 97 i else 0)).drop k := by
          unfold behind; simp only [hbt, if_true, hki]; rw [← hk]
        have := tail k w o (by omega) hbe
        simp [-getElem?_pos, -Array.getElem?_eq_getElem, -List.length_flatten, List.getElem?_cons_zero, List.getElem?_cons_succ, hj, hkia, hkheap, hkc, hkq, hw1]
        exact this
      · have hki : ks[(logB again i).length]? = none := by simp; omega
        have hbe : behind n again ks i = (fill32 (let0 65 i)).take 0 ++ (fill32 (if i < n then let0 97 i else 0)).drop 0 := by
          unfold behind; simp only [hbt, if_true, hki]; rfl
        have := tail 0 w o (by omega) hbe
        simp [-getElem?_pos, -Array.getElem?_eq_getElem, -List.length_flatten, List.getElem?_cons_zero, List.getElem?_cons_succ, hj, hw1]
        exact this
    · have hl1 : logB again (i + 1) = logB again i := by rw [logB_succ, if_neg (by simp [hbf])]
      have hbe : behind n again ks i = (fill32 (let0 65 i)).take 0 ++ (fill32 (if i < n then let0 97 i else 0)).drop 0 := by
        unfold behind; simp only [hbf]; rfl
      have := tail 0 w o (by omega) hbe
      rw [hl1] at this
      exact this
  unfold law03_DiskSure_s4
  refine filled_spec 0 fun w1 hk1 => ?_
  simp only [bq_lss, bV_b]
  refine ⟨fun hin' => ?_, fun hout => ?_⟩
  · have hin' : i < n := by simpa using hin'
    have hA : IntKind.u8.wrap (97 + (i : Int)) = ((let0 97 i).toNat : Int) := by rw [wrap_u8 (by omega) (by omega), let0_nat (by omega)]; rfl
    have hw97 : IntKind.i64.wrap (97 + (i : Int)) = 97 + (i : Int) := w64 (by omega) (by omega)
    simp only [bq_add, hw97, cvI_i, hA]
    refine filled_spec (let0 97 i) fun w2 hk2 => ?_
    have := bits w2 ((o.keep hk1).keep hk2)
    simpa [hin'] using this
  · have hout : ¬ i < n := by simpa using hout
    have := bits w1 (o.keep hk1)
    simpa [hout] using this
end
end Go.Proofs

/- DiskSure, its other half: the writes, the flush and the crash. -/
set_option linter.unusedVariables false
set_option linter.unusedSimpArgs false
namespace Go.Proofs
open Go Go.Q
theorem logA_len (n : Nat) : (logA n).length = n := by simp [logA]
theorem logB_len (again : Int) (n : Nat) : (logB again n).length ≤ n := by
  unfold logB; rw [List.length_map]
  exact Nat.le_trans (List.length_filter_le _ _) (by simp)
theorem applyAll_len : ∀ (l : List (Nat × List UInt8)) (L : List (List UInt8)), (applyAll L l).length = L.length := by
  intro l
  induction l with
  | nil => intro L; rfl
  | cons x r ih =>
    intro L
    show (applyAll (L.set x.1 x.2) r).length = _
    rw [ih]; simp
theorem applyAll_snoc (L : List (List UInt8)) (l : List (Nat × List UInt8)) (x : Nat × List UInt8) : applyAll L (l ++ [x]) = (applyAll L l).set x.1 x.2 := by
  unfold applyAll; rw [List.foldl_append]; rfl
theorem dA_write {i n : Nat} (hi : i < 16) : (dA i n).write (i : Int) (fill32 (let0 97 i)) = (dA (i + 1) n, 0) := by
  have h := write_calm (d := dA i n) rfl rfl (i := i) (by simp [dA, secA_len]; exact hi) (s := fill32 (let0 97 i)) (by simp)
  rw [h]
  simp only [dA, secA_set hi, logA_succ]
theorem dA_flush {n m : Nat} (hn : n ≤ 16) : (dA n m).flush = (dB n 0 0, 0) := by
  have h := flush_calm (d := dA n m) rfl rfl
  rw [h]
  simp only [dA, dB, applyA n hn, logB]
  rfl
theorem dB_zero (n : Nat) (again : Int) : dB n 0 0 = dB n again 0 := rfl
theorem dB_write {n i : Nat} {again : Int} (hi : i < 16) (hb : bitOf again i = true) : (dB n again i).write (i : Int) (fill32 (let0 65 i)) = (dB n again (i + 1), 0) := by
  have h := write_calm (d := dB n again i) rfl rfl (i := i) (by simp [dB, applyAll_len, secA_len]; exact hi) (s := fill32 (let0 65 i)) (by simp)
  rw [h]
  simp only [dB, logB_succ, hb, if_true, applyAll_snoc]
theorem dB_skip {n i : Nat} {again : Int} (hb : ¬ bitOf again i = true) : dB n again (i + 1) = dB n again i := by
  simp only [dB, logB_succ, hb]
  rfl
theorem dB_crash (n : Nat) (again : Int) (ks : List Int) : (dB n again 16).crash ks = dC n again ks := rfl
section
variable {w0 : World} {b n : Nat} {again : Int} {kv : Value} {ks : List Int} {SK : List Nat}
theorem sure_s8 {R : Value → World → Prop} (hR : ∀ w', Kp [] w0 w' → R (.bool true) w') (hn : n ≤ 16) (ha : -9223372036854775808 ≤ again ∧ again < 9223372036854775808)
    (hks : IntsAt w0 kv ks SK) (hSK : ∀ x ∈ SK, x < w0.heap.size) (hkw : ∀ x ∈ ks, -9223372036854775808 ≤ x ∧ x < 9223372036854775808) {w : World} {S : List Nat} (o : Own w0 w b (dB n again 16) S) :
    law03_DiskSure_s8 R (.int .i64 again) kv (.pointer (some ⟨b, 0, none⟩)) (.int .i64 n) w := by
  unfold law03_DiskSure_s8
  have hl := logB_len again 16
  refine own_crash o (by simp only [dB]; omega) (hks.keep o.kp (by simp)) (fun x hx hxS => by have := hSK x hx; have := o.new x hxS; omega) hkw fun w1 o1 _ => ?_
  rw [dB_crash] at o1
  simp [-getElem?_pos, -Array.getElem?_eq_getElem, -List.length_flatten]
  exact sure_loop3 hR hn ha hks hkw o1
theorem sure_loop2 {R : Value → World → Prop} (hR : ∀ w', Kp [] w0 w' → R (.bool true) w') (hn : n ≤ 16) (ha : -9223372036854775808 ≤ again ∧ again < 9223372036854775808)
    (hks : IntsAt w0 kv ks SK) (hSK : ∀ x ∈ SK, x < w0.heap.size) (hkw : ∀ x ∈ ks, -9223372036854775808 ≤ x ∧ x < 9223372036854775808) {w : World} {S : List Nat} (o : Own w0 w b (dB n again 0) S) :
    law03_DiskSure_L10 R (.int .i64 again) kv (.pointer (some ⟨b, 0, none⟩)) (.int .i64 n) (.int .i64 0) w := by
  unfold law03_DiskSure_L10
  refine loop_inv (fun m xs w => ∃ i S, i ≤ 16 ∧ m = 16 - i ∧ xs = [.int .i64 again, kv, .pointer (some ⟨b, 0, none⟩), .int .i64 n, .int .i64 (i : Nat)] ∧ Own w0 w b (dB n again i) S)
    ?_ (m := 16) ⟨0, S, by omega, rfl, rfl, o⟩
  rintro m N xs w ⟨i, S, hi, rfl, rfl, o⟩ hN
  simp only [law03_DiskSure_L10F, law03_DiskSure_b9, bq_lss, bV_b]
  have hin : ∀ w' S', Own w0 w' b (dB n again (i + 1)) S' → i < 16 → N [.int .i64 again, kv, .pointer (some ⟨b, 0, none⟩), .int .i64 n, .int .i64 ((i + 1 : Nat) : Int)] w' :=
    fun w' S' o' h => hN (16 - (i + 1)) _ _ (by omega) ⟨i + 1, S', by omega, rfl, rfl, o'⟩
  refine ⟨fun hlt => ?_, fun hge => ?_⟩
  · have hlt : i < 16 := by simp at hlt; omega
    have hiw : IntKind.i64.wrap ((i : Int) + 1) = ((i + 1 : Nat) : Int) := by rw [w64 (by omega) (by omega)]; simp
    rw [shr_of (by omega) (by simp [IntKind.bits]; omega)]
    have hb2 : decide ((again / 2 ^ (i : Int).toNat % 2) = 1) = bitOf again i := by simp [bitOf]
    simp only [and1, bq_eql, bV_b, hb2]
    refine ⟨fun hbt => ?_, fun hbf => ?_⟩
    · have hA : IntKind.u8.wrap (65 + (i : Int)) = ((let0 65 i).toNat : Int) := by rw [wrap_u8 (by omega) (by omega), let0_nat (by omega)]; rfl
      have hw65 : IntKind.i64.wrap (65 + (i : Int)) = 65 + (i : Int) := w64 (by omega) (by omega)
      simp only [bq_add, hw65, cvI_i, hA]
      refine filled_spec (let0 65 i) fun w2 hk2 => ?_
      have hl := logB_len again i
      refine own_write (o.keep hk2) (by simp only [dB]; omega) i _ fun w3 S3 o3 _ _ => ?_
      rw [dB_write hlt hbt] at o3 ⊢
      simp [-getElem?_pos, -Array.getElem?_eq_getElem, -List.length_flatten, hiw]
      exact hin _ _ o3 hlt
    · rw [← dB_skip (by simp [hbf])] at o
      simp [-getElem?_pos, -Array.getElem?_eq_getElem, -List.length_flatten, hiw]
      exact hin _ _ o hlt
  · have hie : i = 16 := by simp at hge; omega
    subst hie
    exact sure_s8 hR hn ha hks hSK hkw o
theorem sure_s12 {R : Value → World → Prop} (hR : ∀ w', Kp [] w0 w' → R (.bool true) w') (hn : n ≤ 16) (ha : -9223372036854775808 ≤ again ∧ again < 9223372036854775808)
    (hks : IntsAt w0 kv ks SK) (hSK : ∀ x ∈ SK, x < w0.heap.size) (hkw : ∀ x ∈ ks, -9223372036854775808 ≤ x ∧ x < 9223372036854775808) {w : World} {S : List Nat} (o : Own w0 w b (dA n 0) S) :
    law03_DiskSure_s12 R (.int .i64 again) kv (.pointer (some ⟨b, 0, none⟩)) (.int .i64 n) w := by
  unfold law03_DiskSure_s12
  refine own_flush o (by simp only [dA, logA_len]; omega) fun w1 o1 _ => ?_
  rw [dA_flush hn, dB_zero n again] at o1
  rw [dA_flush hn]
  simp [-getElem?_pos, -Array.getElem?_eq_getElem, -List.length_flatten]
  unfold law03_DiskSure_s11
  exact sure_loop2 hR hn ha hks hSK hkw o1
theorem sure_loop1 {R : Value → World → Prop} (hR : ∀ w', Kp [] w0 w' → R (.bool true) w') (hn : n ≤ 16) (ha : -9223372036854775808 ≤ again ∧ again < 9223372036854775808)
    (hks : IntsAt w0 kv ks SK) (hSK : ∀ x ∈ SK, x < w0.heap.size) (hkw : ∀ x ∈ ks, -9223372036854775808 ≤ x ∧ x < 9223372036854775808) {w : World} {S : List Nat} (o : Own w0 w b (dA 0 0) S) :
    law03_DiskSure_L14 R (.int .i64 again) kv (.pointer (some ⟨b, 0, none⟩)) (.int .i64 n) (.int .i64 0) w := by
  unfold law03_DiskSure_L14
  refine loop_inv (fun m xs w => ∃ i S, i ≤ n ∧ m = n - i ∧ xs = [.int .i64 again, kv, .pointer (some ⟨b, 0, none⟩), .int .i64 n, .int .i64 (i : Nat)] ∧ Own w0 w b (dA i 0) S)
    ?_ (m := n) ⟨0, S, by omega, rfl, rfl, o⟩
  rintro m N xs w ⟨i, S, hi, rfl, rfl, o⟩ hN
  simp only [law03_DiskSure_L14F, law03_DiskSure_b13, bq_lss, bV_b]
  have hin : ∀ w' S', Own w0 w' b (dA (i + 1) 0) S' → i < n → N [.int .i64 again, kv, .pointer (some ⟨b, 0, none⟩), .int .i64 n, .int .i64 ((i + 1 : Nat) : Int)] w' :=
    fun w' S' o' h => hN (n - (i + 1)) _ _ (by omega) ⟨i + 1, S', by omega, rfl, rfl, o'⟩
  refine ⟨fun hlt => ?_, fun hge => ?_⟩
  · have hlt : i < n := by simp at hlt; omega
    have hiw : IntKind.i64.wrap ((i : Int) + 1) = ((i + 1 : Nat) : Int) := by rw [w64 (by omega) (by omega)]; simp
    have hA : IntKind.u8.wrap (97 + (i : Int)) = ((let0 97 i).toNat : Int) := by rw [wrap_u8 (by omega) (by omega), let0_nat (by omega)]; rfl
    have hw97 : IntKind.i64.wrap (97 + (i : Int)) = 97 + (i : Int) := w64 (by omega) (by omega)
    simp only [bq_add, hw97, cvI_i, hA]
    refine filled_spec (let0 97 i) fun w2 hk2 => ?_
    refine own_write (o.keep hk2) (by simp only [dA, logA_len]; omega) i _ fun w3 S3 o3 _ _ => ?_
    rw [dA_write (by omega)] at o3 ⊢
    simp [-getElem?_pos, -Array.getElem?_eq_getElem, -List.length_flatten, hiw]
    exact hin _ _ o3 hlt
  · have hie : i = n := by simp at hge; omega
    subst hie
    exact sure_s12 hR hn ha hks hSK hkw o
theorem sure_call {many again : Int} {R : Value → World → Prop} (hR : ∀ w', Kp [] w0 w' → R (.bool true) w') (ha : -9223372036854775808 ≤ again ∧ again < 9223372036854775808)
    (hks : IntsAt w0 kv ks SK) (hSK : ∀ x ∈ SK, x < w0.heap.size) (hkw : ∀ x ∈ ks, -9223372036854775808 ≤ x ∧ x < 9223372036854775808) :
    callG Try.prog 3 #[.int .i64 many, .int .i64 again, kv] w0 R := by
  refine law03_DiskSure_call ?_
  simp only [law03_DiskSure, law03_DiskSure_s17]
  refine own_new (n := 16) (Kp.refl [] w0) (by omega) (by omega) fun w1 b S1 o1 _ => ?_
  simp [-getElem?_pos, -Array.getElem?_eq_getElem, -List.length_flatten, List.getElem?_cons_zero, List.getElem?_cons_succ]
  simp only [law03_DiskSure_s16, and15, law03_DiskSure_s15]
  obtain ⟨n, hn⟩ : ∃ n : Nat, many % 16 = (n : Int) := ⟨(many % 16).toNat, by have := Int.emod_nonneg many (show (16 : Int) ≠ 0 by omega); omega⟩
  rw [hn]
  have hn16 : n ≤ 16 := by have := Int.emod_lt_of_pos many (show (0 : Int) < 16 by omega); omega
  have hd : DK.fresh 16 = dA 0 0 := by unfold DK.fresh dA; rw [secA_zero]; rfl
  rw [hd] at o1
  exact sure_loop1 hR hn16 ha hks hSK hkw o1
end
end Go.Proofs

set_option linter.unusedVariables false
set_option linter.unusedSimpArgs false
namespace Go.Proofs
open Go Go.Q
set_option maxRecDepth 100000
/-! quayside/quaysideref03.burns -/
def ref03_burns_s0 (R : Value → World → Prop) (x1 x2 : Value) (w : World) : Prop :=
  fa 2 x1 fun t14 =>
  ld1 t14 w fun t15 =>
  qG Try.prog (bq .gtr 3 (.tmp 15) (.const (.int .i64 0)) t15 (.int .i64 0)) w fun t16 =>
  bV t16
  (fa 2 x1 fun t17 =>
  ld1 t17 w fun t18 =>
  qG Try.prog (bq .sub 3 (.tmp 18) (.const (.int .i64 1)) t18 (.int .i64 1)) w fun t19 =>
  fa 2 x1 fun t20 =>
  st1 t20 t19 w fun w =>
  ldn 4 x1 w fun t21 =>
  stn 4 x2 t21 w fun w =>
  qG Try.prog (do loadVar 39 (← asAddr x2)) w fun r2 =>
  R (.tuple #[r2, (.bool true)]) w)
  (ldn 4 x1 w fun t21_1 =>
  stn 4 x2 t21_1 w fun w =>
  qG Try.prog (do loadVar 39 (← asAddr x2)) w fun r2_1 =>
  R (.tuple #[r2_1, (.bool true)]) w)

theorem ref03_burns_s0_eq (R : Value → World → Prop) : ∀ e w, lift Try.prog 22 (sub (bodyOf Try.f47) [1, 1]) (finK Try.prog Try.f47.results.toList R) e w = ref03_burns_s0 R (e 1) (e 2) w := fun e w => by kernel_rfl

def ref03_burns_s1 (R : Value → World → Prop) (x1 x2 x10 : Value) (w : World) : Prop :=
  bV x10
  (fa 3 x1 fun t11 =>
  st1 t11 (.bool true) w fun w =>
  fa 2 x1 fun t12 =>
  st1 t12 (.int .i64 (-1)) w fun w =>
  ldn 4 x1 w fun t13 =>
  stn 4 x2 t13 w fun w =>
  qG Try.prog (do loadVar 39 (← asAddr x2)) w fun r2 =>
  R (.tuple #[r2, (.bool false)]) w)
  (ref03_burns_s0 R x1 x2 w)

theorem ref03_burns_s1_eq (R : Value → World → Prop) : ∀ e w, lift Try.prog 22 (sub (bodyOf Try.f47) [1, 0, 1]) (seqK (fun e w => ref03_burns_s0 R (e 1) (e 2) w) (finK Try.prog Try.f47.results.toList R)) e w = ref03_burns_s1 R (e 1) (e 2) (e 10) w := fun e w => by kernel_rfl

def ref03_burns_s2 (R : Value → World → Prop) (x1 x2 : Value) (w : World) : Prop :=
  fa 3 x1 fun t4 =>
  ld1 t4 w fun t5 =>
  bV t5
  (ref03_burns_s1 R x1 x2 (.bool true) w)
  (fa 2 x1 fun t7 =>
  ld1 t7 w fun t8 =>
  qG Try.prog (bq .eql 3 (.tmp 8) (.const (.int .i64 0)) t8 (.int .i64 0)) w fun t9 =>
  ref03_burns_s1 R x1 x2 t9 w)

theorem ref03_burns_s2_eq (R : Value → World → Prop) : ∀ e w, lift Try.prog 22 (sub (bodyOf Try.f47) [1, 0]) (seqK (fun e w => ref03_burns_s0 R (e 1) (e 2) w) (finK Try.prog Try.f47.results.toList R)) e w = ref03_burns_s2 R (e 1) (e 2) w :=
  segs_eq (l := [(sub (bodyOf Try.f47) [1, 0, 0])]) (y := (sub (bodyOf Try.f47) [1, 0, 1])) (Y := (fun e w => ref03_burns_s1 R (e 1) (e 2) (e 10) w)) (ref03_burns_s1_eq R) (fun e w => by kernel_rfl)

def ref03_burns_s3 (R : Value → World → Prop) (x0 : Value) (w : World) : Prop :=
  newG (Value.cells x0) 39 w fun t1 w =>
  newG (zc Try.prog 39) 39 w fun t2 w =>
  ref03_burns_s2 R t1 t2 w

theorem ref03_burns_s3_eq (R : Value → World → Prop) : ∀ e w, lift Try.prog 22 (bodyOf Try.f47) (finK Try.prog Try.f47.results.toList R) e w = ref03_burns_s3 R (e 0) w :=
  segs_eq (l := [(sub (bodyOf Try.f47) [0])]) (y := (sub (bodyOf Try.f47) [1])) (Y := (fun e w => ref03_burns_s2 R (e 1) (e 2) w)) (seq_seg (x := (sub (bodyOf Try.f47) [1, 0])) (y := (sub (bodyOf Try.f47) [1, 1])) (ref03_burns_s0_eq R) (ref03_burns_s2_eq R)) (fun e w => by kernel_rfl)

def ref03_burns (R : Value → World → Prop) (x0 : Value) (w : World) : Prop := ref03_burns_s3 R x0 w
theorem ref03_burns_call {R : Value → World → Prop} {x0 : Value} {w : World} (h : ref03_burns R x0 w) : callG Try.prog 47 #[x0] w R :=
  calls_lift_eq Try.mixed Try.func47 (args := [x0]) rfl rfl rfl rfl ((ref03_burns_s3_eq R) (envOf [x0]) w) (by kernel_rfl) h
/-! quayside/quaysideref03.with -/
def ref03_with_s0 (R : Value → World → Prop) (x0 x1 x2 : Value) (w : World) : Prop :=
  slL 1 x0 none (some x1) fun t11 =>
  app 9 1 16 (zc Try.prog 9) (.slice none 0 0) t11 w fun t12 w =>
  bsl 9 1 1 (zc Try.prog 9) #[(0, x2)] w fun t15 w =>
  app 9 1 16 (zc Try.prog 9) t12 t15 w fun t16 w =>
  qG Try.prog (bq .add 3 (.tmp 19) (.const (.int .i64 1)) x1 (.int .i64 1)) w fun t20 =>
  slL 1 x0 (some t20) none fun t21 =>
  app 9 1 16 (zc Try.prog 9) t16 t21 w fun t22 w =>
  R t22 w

theorem ref03_with_s0_eq (R : Value → World → Prop) : ∀ e w, lift Try.prog 23 (bodyOf Try.f48) (finK Try.prog Try.f48.results.toList R) e w = ref03_with_s0 R (e 0) (e 1) (e 2) w := fun e w => by kernel_rfl

def ref03_with (R : Value → World → Prop) (x0 x1 x2 : Value) (w : World) : Prop := ref03_with_s0 R x0 x1 x2 w
theorem ref03_with_call {R : Value → World → Prop} {x0 x1 x2 : Value} {w : World} (h : ref03_with R x0 x1 x2 w) : callG Try.prog 48 #[x0, x1, x2] w R :=
  calls_lift_eq Try.mixed Try.func48 (args := [x0, x1, x2]) rfl rfl rfl rfl ((ref03_with_s0_eq R) (envOf [x0, x1, x2]) w) (by kernel_rfl) h
/-! quayside/quaysideref03.New -/
def ref03_New_s0 (R : Value → World → Prop) (x2 x4 : Value) (w : World) : Prop :=
  bld [(0, 1), (1, 1), (2, 1), (3, 1)] (zc Try.prog 39) #[(0, x4), (2, (.int .i64 (-1)))] fun t26 =>
  stn 4 x2 t26 w fun w =>
  qG Try.prog (do loadVar 39 (← asAddr x2)) w fun r2 =>
  R (.tuple #[r2, (.int .i64 0)]) w

theorem ref03_New_s0_eq (R : Value → World → Prop) : ∀ e w, lift Try.prog 27 (sub (bodyOf Try.f19) [1, 1, 1, 1]) (finK Try.prog Try.f19.results.toList R) e w = ref03_New_s0 R (e 2) (e 4) w := fun e w => by kernel_rfl

def ref03_New_b1 (R : Value → World → Prop) (N1 : List Value → World → Prop) (x0 x2 x4 x5 : Value) (w : World) : Prop :=
  qG Try.prog (bq .lss 3 (.tmp 15) (.tmp 16) x5 x0) w fun t17 =>
  bV t17
  (mkG 5 1 1 (zc Try.prog 5) (.int .i64 32) (.int .i64 32) w fun t22 w =>
  cvBS t22 w fun t23 =>
  ia 1 x4 x5 fun t24 =>
  st1 t24 t23 w fun w =>
  qG Try.prog (bq .add 3 (.tmp 18) (.const (.int .i64 1)) x5 (.int .i64 1)) w fun t19 =>
  N1 [x0, x2, x4, t19] w)
  (ref03_New_s0 R x2 x4 w)

theorem ref03_New_b1_eq (R : Value → World → Prop) (N1 : List Value → World → Prop) : ∀ e w, lift Try.prog 27 (sub (bodyOf Try.f19) [1, 1, 1, 0, 1, 0, 0]) (seqK (fun e w => N1 [e 0, e 2, e 4, e 5] w) (blockK 0 (seqK (fun e w => ref03_New_s0 R (e 2) (e 4) w) (finK Try.prog Try.f19.results.toList R)))) e w = ref03_New_b1 R N1 (e 0) (e 2) (e 4) (e 5) w := fun e w => by kernel_rfl

def ref03_New_L2F (R : Value → World → Prop) (N1 : List Value → World → Prop) (xs : List Value) (w : World) : Prop :=
  match xs with
  | [x0, x2, x4, x5] => ref03_New_b1 R N1 x0 x2 x4 x5 w
  | _ => False

def ref03_New_L2 (R : Value → World → Prop) (x0 x2 x4 x5 : Value) (w : World) : Prop :=
  ∃ m, loopV (ref03_New_L2F R) m [x0, x2, x4, x5] w

theorem ref03_New_L2_eq (R : Value → World → Prop) : ∀ e w, lift Try.prog 27 (sub (bodyOf Try.f19) [1, 1, 1, 0, 1, 0]) (blockK 0 (seqK (fun e w => ref03_New_s0 R (e 2) (e 4) w) (finK Try.prog Try.f19.results.toList R))) e w = ref03_New_L2 R (e 0) (e 2) (e 4) (e 5) w := loop_seg (F := ref03_New_L2F R) (sel := fun e => [e 0, e 2, e 4, e 5]) fun N1 => (ref03_New_b1_eq R N1)

def ref03_New_s3 (R : Value → World → Prop) (x0 x2 x4 : Value) (w : World) : Prop :=
  ref03_New_L2 R x0 x2 x4 (.int .i64 0) w

theorem ref03_New_s3_eq (R : Value → World → Prop) : ∀ e w, lift Try.prog 27 (sub (bodyOf Try.f19) [1, 1, 1, 0]) (seqK (fun e w => ref03_New_s0 R (e 2) (e 4) w) (finK Try.prog Try.f19.results.toList R)) e w = ref03_New_s3 R (e 0) (e 2) (e 4) w :=
  segs_eq (l := [(sub (bodyOf Try.f19) [1, 1, 1, 0, 0])]) (y := (sub (bodyOf Try.f19) [1, 1, 1, 0, 1])) (Y := (fun e w => ref03_New_L2 R (e 0) (e 2) (e 4) (e 5) w)) (ref03_New_L2_eq R) (fun e w => by kernel_rfl)

def ref03_New_s4 (R : Value → World → Prop) (x0 x2 : Value) (w : World) : Prop :=
  mkG 9 1 16 (zc Try.prog 9) x0 x0 w fun t14 w =>
  ref03_New_s3 R x0 x2 t14 w

theorem ref03_New_s4_eq (R : Value → World → Prop) : ∀ e w, lift Try.prog 27 (sub (bodyOf Try.f19) [1, 1]) (finK Try.prog Try.f19.results.toList R) e w = ref03_New_s4 R (e 0) (e 2) w :=
  segs_eq (l := [(sub (bodyOf Try.f19) [1, 1, 0])]) (y := (sub (bodyOf Try.f19) [1, 1, 1])) (Y := (fun e w => ref03_New_s3 R (e 0) (e 2) (e 4) w)) (seq_seg (x := (sub (bodyOf Try.f19) [1, 1, 1, 0])) (y := (sub (bodyOf Try.f19) [1, 1, 1, 1])) (ref03_New_s0_eq R) (ref03_New_s3_eq R)) (fun e w => by kernel_rfl)

def ref03_New_s5 (R : Value → World → Prop) (x0 : Value) (w : World) : Prop :=
  newG (zc Try.prog 39) 39 w fun t2 w =>
  qG Try.prog (bq .lss 3 (.tmp 6) (.const (.int .i64 1)) x0 (.int .i64 1)) w fun t7 =>
  bV t7
  (bld [(0, 1), (1, 1), (2, 1), (3, 1)] (zc Try.prog 39) #[] fun t12 =>
  stn 4 t2 t12 w fun w =>
  qG Try.prog (do loadVar 39 (← asAddr t2)) w fun r2 =>
  R (.tuple #[r2, (.int .i64 1)]) w)
  (qG Try.prog (bq .gtr 3 (.tmp 9) (.const (.int .i64 4096)) x0 (.int .i64 4096)) w fun t10 =>
  bV t10
  (bld [(0, 1), (1, 1), (2, 1), (3, 1)] (zc Try.prog 39) #[] fun t12_1 =>
  stn 4 t2 t12_1 w fun w =>
  qG Try.prog (do loadVar 39 (← asAddr t2)) w fun r2_1 =>
  R (.tuple #[r2_1, (.int .i64 1)]) w)
  (ref03_New_s4 R x0 t2 w))

theorem ref03_New_s5_eq (R : Value → World → Prop) : ∀ e w, lift Try.prog 27 (bodyOf Try.f19) (finK Try.prog Try.f19.results.toList R) e w = ref03_New_s5 R (e 0) w :=
  segs_eq (l := [(sub (bodyOf Try.f19) [0]), (sub (bodyOf Try.f19) [1, 0])]) (y := (sub (bodyOf Try.f19) [1, 1])) (Y := (fun e w => ref03_New_s4 R (e 0) (e 2) w)) (ref03_New_s4_eq R) (fun e w => by kernel_rfl)

def ref03_New (R : Value → World → Prop) (x0 : Value) (w : World) : Prop := ref03_New_s5 R x0 w
theorem ref03_New_call {R : Value → World → Prop} {x0 : Value} {w : World} (h : ref03_New R x0 w) : callG Try.prog 19 #[x0] w R :=
  calls_lift_eq Try.mixed Try.func19 (args := [x0]) rfl rfl rfl rfl ((ref03_New_s5_eq R) (envOf [x0]) w) (by kernel_rfl) h
/-! quayside/quaysideref03.Write -/
def ref03_Write_s0 (R : Value → World → Prop) (x1 x2 x3 x6 : Value) (w : World) : Prop :=
  ldn 4 x3 w fun t26 =>
  callG Try.prog 47 #[t26] w fun t27 w =>
  qG Try.prog (Instr.extract t27 0) w fun t28 =>
  qG Try.prog (Instr.extract t27 1) w fun t29 =>
  stn 4 x3 t28 w fun w =>
  qG Try.prog (Op.unary .not t29) w fun t31 =>
  bV t31
  (ldn 4 x3 w fun t32 =>
  stn 4 x6 t32 w fun w =>
  qG Try.prog (do loadVar 39 (← asAddr x6)) w fun r6 =>
  R (.tuple #[r6, (.int .i64 30)]) w)
  (fa 1 x3 fun t34 =>
  ld1 t34 w fun t35 =>
  app 97 2 24 (zc Try.prog 97) (.slice none 0 0) t35 w fun t36 w =>
  bld [(0, 1), (1, 1)] (zc Try.prog 97) #[(0, x1), (1, x2)] fun t40 =>
  bsl 97 2 1 (zc Try.prog 97) #[(0, t40)] w fun t41 w =>
  app 97 2 24 (zc Try.prog 97) t36 t41 w fun t42 w =>
  fa 1 x3 fun t43 =>
  st1 t43 t42 w fun w =>
  ldn 4 x3 w fun t44 =>
  stn 4 x6 t44 w fun w =>
  qG Try.prog (do loadVar 39 (← asAddr x6)) w fun r6_1 =>
  R (.tuple #[r6_1, (.int .i64 0)]) w)

theorem ref03_Write_s0_eq (R : Value → World → Prop) : ∀ e w, lift Try.prog 45 (sub (bodyOf Try.f20) [1, 1]) (finK Try.prog Try.f20.results.toList R) e w = ref03_Write_s0 R (e 1) (e 2) (e 3) (e 6) w := fun e w => by kernel_rfl

def ref03_Write_s1 (R : Value → World → Prop) (x0 x1 x2 : Value) (w : World) : Prop :=
  newG (Value.cells x0) 39 w fun t3 w =>
  newG (zc Try.prog 39) 39 w fun t6 w =>
  qG Try.prog (bq .lss 3 (.tmp 10) (.const (.int .i64 0)) x1 (.int .i64 0)) w fun t11 =>
  bV t11
  (ldn 4 t3 w fun t24 =>
  stn 4 t6 t24 w fun w =>
  qG Try.prog (do loadVar 39 (← asAddr t6)) w fun r6 =>
  R (.tuple #[r6, (.int .i64 1)]) w)
  (fa 0 t3 fun t14 =>
  ld1 t14 w fun t15 =>
  lenL t15 fun t16 =>
  qG Try.prog (bq .geq 3 (.tmp 13) (.tmp 16) x1 t16) w fun t17 =>
  bV t17
  (ldn 4 t3 w fun t24_1 =>
  stn 4 t6 t24_1 w fun w =>
  qG Try.prog (do loadVar 39 (← asAddr t6)) w fun r6_1 =>
  R (.tuple #[r6_1, (.int .i64 1)]) w)
  (lenS x2 fun t21 =>
  qG Try.prog (bq .neq 3 (.tmp 21) (.const (.int .i64 32)) t21 (.int .i64 32)) w fun t22 =>
  bV t22
  (ldn 4 t3 w fun t24_2 =>
  stn 4 t6 t24_2 w fun w =>
  qG Try.prog (do loadVar 39 (← asAddr t6)) w fun r6_2 =>
  R (.tuple #[r6_2, (.int .i64 1)]) w)
  (ref03_Write_s0 R x1 x2 t3 t6 w)))

theorem ref03_Write_s1_eq (R : Value → World → Prop) : ∀ e w, lift Try.prog 45 (bodyOf Try.f20) (finK Try.prog Try.f20.results.toList R) e w = ref03_Write_s1 R (e 0) (e 1) (e 2) w :=
  segs_eq (l := [(sub (bodyOf Try.f20) [0]), (sub (bodyOf Try.f20) [1, 0])]) (y := (sub (bodyOf Try.f20) [1, 1])) (Y := (fun e w => ref03_Write_s0 R (e 1) (e 2) (e 3) (e 6) w)) (ref03_Write_s0_eq R) (fun e w => by kernel_rfl)

def ref03_Write (R : Value → World → Prop) (x0 x1 x2 : Value) (w : World) : Prop := ref03_Write_s1 R x0 x1 x2 w
theorem ref03_Write_call {R : Value → World → Prop} {x0 x1 x2 : Value} {w : World} (h : ref03_Write R x0 x1 x2 w) : callG Try.prog 20 #[x0, x1, x2] w R :=
  calls_lift_eq Try.mixed Try.func20 (args := [x0, x1, x2]) rfl rfl rfl rfl ((ref03_Write_s1_eq R) (envOf [x0, x1, x2]) w) (by kernel_rfl) h
/-! quayside/quaysideref03.Read -/
def ref03_Read_s0 (R : Value → World → Prop) (x6 : Value) (w : World) : Prop :=
  R (.tuple #[x6, (.int .i64 0)]) w

theorem ref03_Read_s0_eq (R : Value → World → Prop) : ∀ e w, lift Try.prog 46 (sub (bodyOf Try.f21) [1, 1, 1, 1, 1]) (finK Try.prog Try.f21.results.toList R) e w = ref03_Read_s0 R (e 6) w := fun e w => by kernel_rfl

def ref03_Read_b1 (R : Value → World → Prop) (N1 : List Value → World → Prop) (x1 x2 x6 x7 : Value) (w : World) : Prop :=
  fa 1 x2 fun t25 =>
  ld1 t25 w fun t26 =>
  lenL t26 fun t27 =>
  qG Try.prog (bq .lss 3 (.tmp 24) (.tmp 27) x7 t27) w fun t28 =>
  bV t28
  (fa 1 x2 fun t31 =>
  ld1 t31 w fun t32 =>
  ia 2 t32 x7 fun t34 =>
  fa 0 t34 fun t35 =>
  ld1 t35 w fun t36 =>
  qG Try.prog (bq .eql 3 (.tmp 36) (.tmp 37) t36 x1) w fun t38 =>
  bV t38
  (fa 1 x2 fun t39 =>
  ld1 t39 w fun t40 =>
  ia 2 t40 x7 fun t42 =>
  fa 1 t42 fun t43 =>
  ld1 t43 w fun t44 =>
  qG Try.prog (bq .add 3 (.tmp 29) (.const (.int .i64 1)) x7 (.int .i64 1)) w fun t30 =>
  N1 [x1, x2, t44, t30] w)
  (qG Try.prog (bq .add 3 (.tmp 29) (.const (.int .i64 1)) x7 (.int .i64 1)) w fun t30_1 =>
  N1 [x1, x2, x6, t30_1] w))
  (ref03_Read_s0 R x6 w)

theorem ref03_Read_b1_eq (R : Value → World → Prop) (N1 : List Value → World → Prop) : ∀ e w, lift Try.prog 46 (sub (bodyOf Try.f21) [1, 1, 1, 1, 0, 1, 0, 0]) (seqK (fun e w => N1 [e 1, e 2, e 6, e 7] w) (blockK 0 (seqK (fun e w => ref03_Read_s0 R (e 6) w) (finK Try.prog Try.f21.results.toList R)))) e w = ref03_Read_b1 R N1 (e 1) (e 2) (e 6) (e 7) w := fun e w => by kernel_rfl

def ref03_Read_L2F (R : Value → World → Prop) (N1 : List Value → World → Prop) (xs : List Value) (w : World) : Prop :=
  match xs with
  | [x1, x2, x6, x7] => ref03_Read_b1 R N1 x1 x2 x6 x7 w
  | _ => False

def ref03_Read_L2 (R : Value → World → Prop) (x1 x2 x6 x7 : Value) (w : World) : Prop :=
  ∃ m, loopV (ref03_Read_L2F R) m [x1, x2, x6, x7] w

theorem ref03_Read_L2_eq (R : Value → World → Prop) : ∀ e w, lift Try.prog 46 (sub (bodyOf Try.f21) [1, 1, 1, 1, 0, 1, 0]) (blockK 0 (seqK (fun e w => ref03_Read_s0 R (e 6) w) (finK Try.prog Try.f21.results.toList R))) e w = ref03_Read_L2 R (e 1) (e 2) (e 6) (e 7) w := loop_seg (F := ref03_Read_L2F R) (sel := fun e => [e 1, e 2, e 6, e 7]) fun N1 => (ref03_Read_b1_eq R N1)

def ref03_Read_s3 (R : Value → World → Prop) (x1 x2 x6 : Value) (w : World) : Prop :=
  ref03_Read_L2 R x1 x2 x6 (.int .i64 0) w

theorem ref03_Read_s3_eq (R : Value → World → Prop) : ∀ e w, lift Try.prog 46 (sub (bodyOf Try.f21) [1, 1, 1, 1, 0]) (seqK (fun e w => ref03_Read_s0 R (e 6) w) (finK Try.prog Try.f21.results.toList R)) e w = ref03_Read_s3 R (e 1) (e 2) (e 6) w :=
  segs_eq (l := [(sub (bodyOf Try.f21) [1, 1, 1, 1, 0, 0])]) (y := (sub (bodyOf Try.f21) [1, 1, 1, 1, 0, 1])) (Y := (fun e w => ref03_Read_L2 R (e 1) (e 2) (e 6) (e 7) w)) (ref03_Read_L2_eq R) (fun e w => by kernel_rfl)

def ref03_Read_s4 (R : Value → World → Prop) (x1 x2 : Value) (w : World) : Prop :=
  fa 3 x2 fun t17 =>
  ld1 t17 w fun t18 =>
  bV t18
  (R (.tuple #[(.string ⟨#[]⟩), (.int .i64 30)]) w)
  (fa 0 x2 fun t19 =>
  ld1 t19 w fun t20 =>
  ia 1 t20 x1 fun t22 =>
  ld1 t22 w fun t23 =>
  ref03_Read_s3 R x1 x2 t23 w)

theorem ref03_Read_s4_eq (R : Value → World → Prop) : ∀ e w, lift Try.prog 46 (sub (bodyOf Try.f21) [1, 1]) (finK Try.prog Try.f21.results.toList R) e w = ref03_Read_s4 R (e 1) (e 2) w :=
  segs_eq (l := [(sub (bodyOf Try.f21) [1, 1, 0]), (sub (bodyOf Try.f21) [1, 1, 1, 0])]) (y := (sub (bodyOf Try.f21) [1, 1, 1, 1])) (Y := (fun e w => ref03_Read_s3 R (e 1) (e 2) (e 6) w)) (seq_seg (x := (sub (bodyOf Try.f21) [1, 1, 1, 1, 0])) (y := (sub (bodyOf Try.f21) [1, 1, 1, 1, 1])) (ref03_Read_s0_eq R) (ref03_Read_s3_eq R)) (fun e w => by kernel_rfl)

def ref03_Read_s5 (R : Value → World → Prop) (x0 x1 : Value) (w : World) : Prop :=
  newG (Value.cells x0) 39 w fun t2 w =>
  qG Try.prog (bq .lss 3 (.tmp 8) (.const (.int .i64 0)) x1 (.int .i64 0)) w fun t9 =>
  bV t9
  (R (.tuple #[(.string ⟨#[]⟩), (.int .i64 1)]) w)
  (fa 0 t2 fun t12 =>
  ld1 t12 w fun t13 =>
  lenL t13 fun t14 =>
  qG Try.prog (bq .geq 3 (.tmp 11) (.tmp 14) x1 t14) w fun t15 =>
  bV t15
  (R (.tuple #[(.string ⟨#[]⟩), (.int .i64 1)]) w)
  (ref03_Read_s4 R x1 t2 w))

theorem ref03_Read_s5_eq (R : Value → World → Prop) : ∀ e w, lift Try.prog 46 (bodyOf Try.f21) (finK Try.prog Try.f21.results.toList R) e w = ref03_Read_s5 R (e 0) (e 1) w :=
  segs_eq (l := [(sub (bodyOf Try.f21) [0]), (sub (bodyOf Try.f21) [1, 0])]) (y := (sub (bodyOf Try.f21) [1, 1])) (Y := (fun e w => ref03_Read_s4 R (e 1) (e 2) w)) (ref03_Read_s4_eq R) (fun e w => by kernel_rfl)

def ref03_Read (R : Value → World → Prop) (x0 x1 : Value) (w : World) : Prop := ref03_Read_s5 R x0 x1 w
theorem ref03_Read_call {R : Value → World → Prop} {x0 x1 : Value} {w : World} (h : ref03_Read R x0 x1 w) : callG Try.prog 21 #[x0, x1] w R :=
  calls_lift_eq Try.mixed Try.func21 (args := [x0, x1]) rfl rfl rfl rfl ((ref03_Read_s5_eq R) (envOf [x0, x1]) w) (by kernel_rfl) h
/-! quayside/quaysideref03.Flush -/
def ref03_Flush_s0 (R : Value → World → Prop) (x1 x2 : Value) (w : World) : Prop :=
  fa 1 x1 fun t37 =>
  st1 t37 (.slice none 0 0) w fun w =>
  ldn 4 x1 w fun t38 =>
  stn 4 x2 t38 w fun w =>
  qG Try.prog (do loadVar 39 (← asAddr x2)) w fun r2 =>
  R (.tuple #[r2, (.int .i64 0)]) w

theorem ref03_Flush_s0_eq (R : Value → World → Prop) : ∀ e w, lift Try.prog 39 (sub (bodyOf Try.f22) [1, 1, 1, 1]) (finK Try.prog Try.f22.results.toList R) e w = ref03_Flush_s0 R (e 1) (e 2) w := fun e w => by kernel_rfl

def ref03_Flush_b1 (R : Value → World → Prop) (N1 : List Value → World → Prop) (x1 x2 x5 : Value) (w : World) : Prop :=
  fa 1 x1 fun t15 =>
  ld1 t15 w fun t16 =>
  lenL t16 fun t17 =>
  qG Try.prog (bq .lss 3 (.tmp 14) (.tmp 17) x5 t17) w fun t18 =>
  bV t18
  (fa 0 x1 fun t21 =>
  ld1 t21 (World.drew w) fun t22 =>
  fa 1 x1 fun t23 =>
  ld1 t23 (World.drew w) fun t24 =>
  ia 2 t24 x5 fun t26 =>
  fa 0 t26 fun t27 =>
  ld1 t27 (World.drew w) fun t28 =>
  fa 1 x1 fun t29 =>
  ld1 t29 (World.drew w) fun t30 =>
  ia 2 t30 x5 fun t32 =>
  fa 1 t32 fun t33 =>
  ld1 t33 (World.drew w) fun t34 =>
  callG Try.prog 48 #[t22, t28, t34] (World.drew w) fun t35 w =>
  fa 0 x1 fun t36 =>
  st1 t36 t35 w fun w =>
  qG Try.prog (bq .add 3 (.tmp 19) (.const (.int .i64 1)) x5 (.int .i64 1)) w fun t20 =>
  N1 [x1, x2, t20] w)
  (ref03_Flush_s0 R x1 x2 w)

theorem ref03_Flush_b1_eq (R : Value → World → Prop) (N1 : List Value → World → Prop) : ∀ e w, lift Try.prog 39 (sub (bodyOf Try.f22) [1, 1, 1, 0, 1, 0, 0]) (seqK (fun e w => N1 [e 1, e 2, e 5] w) (blockK 0 (seqK (fun e w => ref03_Flush_s0 R (e 1) (e 2) w) (finK Try.prog Try.f22.results.toList R)))) e w = ref03_Flush_b1 R N1 (e 1) (e 2) (e 5) w := fun e w => by kernel_rfl

def ref03_Flush_L2F (R : Value → World → Prop) (N1 : List Value → World → Prop) (xs : List Value) (w : World) : Prop :=
  match xs with
  | [x1, x2, x5] => ref03_Flush_b1 R N1 x1 x2 x5 w
  | _ => False

def ref03_Flush_L2 (R : Value → World → Prop) (x1 x2 x5 : Value) (w : World) : Prop :=
  ∃ m, loopV (ref03_Flush_L2F R) m [x1, x2, x5] w

theorem ref03_Flush_L2_eq (R : Value → World → Prop) : ∀ e w, lift Try.prog 39 (sub (bodyOf Try.f22) [1, 1, 1, 0, 1, 0]) (blockK 0 (seqK (fun e w => ref03_Flush_s0 R (e 1) (e 2) w) (finK Try.prog Try.f22.results.toList R))) e w = ref03_Flush_L2 R (e 1) (e 2) (e 5) w := loop_seg (F := ref03_Flush_L2F R) (sel := fun e => [e 1, e 2, e 5]) fun N1 => (ref03_Flush_b1_eq R N1)

def ref03_Flush_s3 (R : Value → World → Prop) (x1 x2 : Value) (w : World) : Prop :=
  ref03_Flush_L2 R x1 x2 (.int .i64 0) w

theorem ref03_Flush_s3_eq (R : Value → World → Prop) : ∀ e w, lift Try.prog 39 (sub (bodyOf Try.f22) [1, 1, 1, 0]) (seqK (fun e w => ref03_Flush_s0 R (e 1) (e 2) w) (finK Try.prog Try.f22.results.toList R)) e w = ref03_Flush_s3 R (e 1) (e 2) w :=
  segs_eq (l := [(sub (bodyOf Try.f22) [1, 1, 1, 0, 0])]) (y := (sub (bodyOf Try.f22) [1, 1, 1, 0, 1])) (Y := (fun e w => ref03_Flush_L2 R (e 1) (e 2) (e 5) w)) (ref03_Flush_L2_eq R) (fun e w => by kernel_rfl)

def ref03_Flush_s4 (R : Value → World → Prop) (x0 : Value) (w : World) : Prop :=
  newG (Value.cells x0) 39 w fun t1 w =>
  newG (zc Try.prog 39) 39 w fun t2 w =>
  ldn 4 t1 w fun t7 =>
  callG Try.prog 47 #[t7] w fun t8 w =>
  qG Try.prog (Instr.extract t8 0) w fun t9 =>
  qG Try.prog (Instr.extract t8 1) w fun t10 =>
  stn 4 t1 t9 w fun w =>
  qG Try.prog (Op.unary .not t10) w fun t12 =>
  bV t12
  (ldn 4 t1 w fun t13 =>
  stn 4 t2 t13 w fun w =>
  qG Try.prog (do loadVar 39 (← asAddr t2)) w fun r2 =>
  R (.tuple #[r2, (.int .i64 30)]) w)
  (ref03_Flush_s3 R t1 t2 w)

theorem ref03_Flush_s4_eq (R : Value → World → Prop) : ∀ e w, lift Try.prog 39 (bodyOf Try.f22) (finK Try.prog Try.f22.results.toList R) e w = ref03_Flush_s4 R (e 0) w :=
  segs_eq (l := [(sub (bodyOf Try.f22) [0]), (sub (bodyOf Try.f22) [1, 0]), (sub (bodyOf Try.f22) [1, 1, 0])]) (y := (sub (bodyOf Try.f22) [1, 1, 1])) (Y := (fun e w => ref03_Flush_s3 R (e 1) (e 2) w)) (seq_seg (x := (sub (bodyOf Try.f22) [1, 1, 1, 0])) (y := (sub (bodyOf Try.f22) [1, 1, 1, 1])) (ref03_Flush_s0_eq R) (ref03_Flush_s3_eq R)) (fun e w => by kernel_rfl)

def ref03_Flush (R : Value → World → Prop) (x0 : Value) (w : World) : Prop := ref03_Flush_s4 R x0 w
theorem ref03_Flush_call {R : Value → World → Prop} {x0 : Value} {w : World} (h : ref03_Flush R x0 w) : callG Try.prog 22 #[x0] w R :=
  calls_lift_eq Try.mixed Try.func22 (args := [x0]) rfl rfl rfl rfl ((ref03_Flush_s4_eq R) (envOf [x0]) w) (by kernel_rfl) h
/-! quayside/quaysideref03.Fuse -/
def ref03_Fuse_s0 (R : Value → World → Prop) (x0 x1 : Value) (w : World) : Prop :=
  newG (Value.cells x0) 39 w fun t2 w =>
  newG (zc Try.prog 39) 39 w fun t4 w =>
  qG Try.prog (Builtin.max_ #[3, 3] 3 #[x1, (.int .i64 (-1))]) w fun t6 =>
  fa 2 t2 fun t7 =>
  st1 t7 t6 w fun w =>
  ldn 4 t2 w fun t8 =>
  stn 4 t4 t8 w fun w =>
  qG Try.prog (do loadVar 39 (← asAddr t4)) w fun r4 =>
  R r4 w

theorem ref03_Fuse_s0_eq (R : Value → World → Prop) : ∀ e w, lift Try.prog 9 (bodyOf Try.f24) (finK Try.prog Try.f24.results.toList R) e w = ref03_Fuse_s0 R (e 0) (e 1) w := fun e w => by kernel_rfl

def ref03_Fuse (R : Value → World → Prop) (x0 x1 : Value) (w : World) : Prop := ref03_Fuse_s0 R x0 x1 w
theorem ref03_Fuse_call {R : Value → World → Prop} {x0 x1 : Value} {w : World} (h : ref03_Fuse R x0 x1 w) : callG Try.prog 24 #[x0, x1] w R :=
  calls_lift_eq Try.mixed Try.func24 (args := [x0, x1]) rfl rfl rfl rfl ((ref03_Fuse_s0_eq R) (envOf [x0, x1]) w) (by kernel_rfl) h
/-! quayside/quaysideref03.Crash -/
def ref03_Crash_s0 (R : Value → World → Prop) (x2 x4 : Value) (w : World) : Prop :=
  fa 0 x2 fun t51 =>
  ld1 t51 w fun t52 =>
  bld [(0, 1), (1, 1), (2, 1), (3, 1)] (zc Try.prog 39) #[(0, t52), (2, (.int .i64 (-1)))] fun t53 =>
  stn 4 x4 t53 w fun w =>
  qG Try.prog (do loadVar 39 (← asAddr x4)) w fun r4 =>
  R r4 w

theorem ref03_Crash_s0_eq (R : Value → World → Prop) : ∀ e w, lift Try.prog 54 (sub (bodyOf Try.f25) [1, 1]) (finK Try.prog Try.f25.results.toList R) e w = ref03_Crash_s0 R (e 2) (e 4) w := fun e w => by kernel_rfl

def ref03_Crash_s1 (R : Value → World → Prop) (N1 : List Value → World → Prop) (x1 x2 x4 x5 : Value) (w : World) : Prop :=
  ia 1 x1 x5 fun t23 =>
  ld1 t23 w fun t24 =>
  qG Try.prog (Builtin.min_ #[3, 3] 3 #[t24, (.int .i64 32)]) w fun t25 =>
  qG Try.prog (Builtin.max_ #[3, 3] 3 #[(.int .i64 0), t25]) w fun t26 =>
  fa 1 x2 fun t27 =>
  ld1 t27 w fun t28 =>
  ia 2 t28 x5 fun t30 =>
  ldn 2 t30 w fun t31 =>
  newG (zc Try.prog 97) 97 w fun t7 w =>
  stn 2 t7 t31 w fun w =>
  fa 0 x2 fun t32 =>
  ld1 t32 (World.drew w) fun t33 =>
  fa 0 t7 fun t34 =>
  ld1 t34 (World.drew w) fun t35 =>
  fa 1 t7 fun t36 =>
  ld1 t36 (World.drew w) fun t37 =>
  slS t37 none (some t26) fun t39 =>
  fa 0 x2 fun t40 =>
  ld1 t40 (World.drew w) fun t41 =>
  fa 0 t7 fun t42 =>
  ld1 t42 (World.drew w) fun t43 =>
  ia 1 t41 t43 fun t44 =>
  ld1 t44 (World.drew w) fun t45 =>
  slS t45 (some t26) none fun t47 =>
  qG Try.prog (bq .add 9 (.tmp 39) (.tmp 47) t39 t47) (World.drew w) fun t48 =>
  callG Try.prog 48 #[t33, t35, t48] (World.drew w) fun t49 w =>
  fa 0 x2 fun t50 =>
  st1 t50 t49 w fun w =>
  qG Try.prog (bq .add 3 (.tmp 19) (.const (.int .i64 1)) x5 (.int .i64 1)) w fun t20 =>
  N1 [x1, x2, x4, t20] w

theorem ref03_Crash_s1_eq (R : Value → World → Prop) (N1 : List Value → World → Prop) : ∀ e w, lift Try.prog 54 (sub (bodyOf Try.f25) [1, 0, 1, 0, 0, 1]) (seqK (fun e w => N1 [e 1, e 2, e 4, e 5] w) (blockK 0 (seqK (fun e w => ref03_Crash_s0 R (e 2) (e 4) w) (finK Try.prog Try.f25.results.toList R)))) e w = ref03_Crash_s1 R N1 (e 1) (e 2) (e 4) (e 5) w := fun e w => by kernel_rfl

def ref03_Crash_s2 (R : Value → World → Prop) (N1 : List Value → World → Prop) (x1 x2 x4 x5 : Value) (w : World) : Prop :=
  fa 1 x2 fun t9 =>
  ld1 t9 w fun t10 =>
  lenL t10 fun t11 =>
  qG Try.prog (bq .lss 3 (.tmp 8) (.tmp 11) x5 t11) w fun t12 =>
  bV t12
  (lenL x1 fun t16 =>
  qG Try.prog (bq .lss 3 (.tmp 14) (.tmp 16) x5 t16) w fun t17 =>
  bV t17
  (ref03_Crash_s1 R N1 x1 x2 x4 x5 w)
  (ref03_Crash_s0 R x2 x4 w))
  (ref03_Crash_s0 R x2 x4 w)

theorem ref03_Crash_s2_eq (R : Value → World → Prop) (N1 : List Value → World → Prop) : ∀ e w, lift Try.prog 54 (sub (bodyOf Try.f25) [1, 0, 1, 0, 0]) (seqK (fun e w => N1 [e 1, e 2, e 4, e 5] w) (blockK 0 (seqK (fun e w => ref03_Crash_s0 R (e 2) (e 4) w) (finK Try.prog Try.f25.results.toList R)))) e w = ref03_Crash_s2 R N1 (e 1) (e 2) (e 4) (e 5) w :=
  segs_eq (l := [(sub (bodyOf Try.f25) [1, 0, 1, 0, 0, 0])]) (y := (sub (bodyOf Try.f25) [1, 0, 1, 0, 0, 1])) (Y := (fun e w => ref03_Crash_s1 R N1 (e 1) (e 2) (e 4) (e 5) w)) (ref03_Crash_s1_eq R N1) (fun e w => by kernel_rfl)

def ref03_Crash_L3F (R : Value → World → Prop) (N1 : List Value → World → Prop) (xs : List Value) (w : World) : Prop :=
  match xs with
  | [x1, x2, x4, x5] => ref03_Crash_s2 R N1 x1 x2 x4 x5 w
  | _ => False

def ref03_Crash_L3 (R : Value → World → Prop) (x1 x2 x4 x5 : Value) (w : World) : Prop :=
  ∃ m, loopV (ref03_Crash_L3F R) m [x1, x2, x4, x5] w

theorem ref03_Crash_L3_eq (R : Value → World → Prop) : ∀ e w, lift Try.prog 54 (sub (bodyOf Try.f25) [1, 0, 1, 0]) (blockK 0 (seqK (fun e w => ref03_Crash_s0 R (e 2) (e 4) w) (finK Try.prog Try.f25.results.toList R))) e w = ref03_Crash_L3 R (e 1) (e 2) (e 4) (e 5) w := loop_seg (F := ref03_Crash_L3F R) (sel := fun e => [e 1, e 2, e 4, e 5]) fun N1 => (ref03_Crash_s2_eq R N1)

def ref03_Crash_s4 (R : Value → World → Prop) (x1 x2 x4 : Value) (w : World) : Prop :=
  ref03_Crash_L3 R x1 x2 x4 (.int .i64 0) w

theorem ref03_Crash_s4_eq (R : Value → World → Prop) : ∀ e w, lift Try.prog 54 (sub (bodyOf Try.f25) [1, 0]) (seqK (fun e w => ref03_Crash_s0 R (e 2) (e 4) w) (finK Try.prog Try.f25.results.toList R)) e w = ref03_Crash_s4 R (e 1) (e 2) (e 4) w :=
  segs_eq (l := [(sub (bodyOf Try.f25) [1, 0, 0])]) (y := (sub (bodyOf Try.f25) [1, 0, 1])) (Y := (fun e w => ref03_Crash_L3 R (e 1) (e 2) (e 4) (e 5) w)) (ref03_Crash_L3_eq R) (fun e w => by kernel_rfl)

def ref03_Crash_s5 (R : Value → World → Prop) (x0 x1 : Value) (w : World) : Prop :=
  newG (Value.cells x0) 39 w fun t2 w =>
  newG (zc Try.prog 39) 39 w fun t4 w =>
  ref03_Crash_s4 R x1 t2 t4 w

theorem ref03_Crash_s5_eq (R : Value → World → Prop) : ∀ e w, lift Try.prog 54 (bodyOf Try.f25) (finK Try.prog Try.f25.results.toList R) e w = ref03_Crash_s5 R (e 0) (e 1) w :=
  segs_eq (l := [(sub (bodyOf Try.f25) [0])]) (y := (sub (bodyOf Try.f25) [1])) (Y := (fun e w => ref03_Crash_s4 R (e 1) (e 2) (e 4) w)) (seq_seg (x := (sub (bodyOf Try.f25) [1, 0])) (y := (sub (bodyOf Try.f25) [1, 1])) (ref03_Crash_s0_eq R) (ref03_Crash_s4_eq R)) (fun e w => by kernel_rfl)

def ref03_Crash (R : Value → World → Prop) (x0 x1 : Value) (w : World) : Prop := ref03_Crash_s5 R x0 x1 w
theorem ref03_Crash_call {R : Value → World → Prop} {x0 x1 : Value} {w : World} (h : ref03_Crash R x0 x1 w) : callG Try.prog 25 #[x0, x1] w R :=
  calls_lift_eq Try.mixed Try.func25 (args := [x0, x1]) rfl rfl rfl rfl ((ref03_Crash_s5_eq R) (envOf [x0, x1]) w) (by kernel_rfl) h
/-! quayside/quaysidelaw03.DiskPlays -/
def law03_DiskPlays_s0 (R : Value → World → Prop) (w : World) : Prop :=
  callG Try.prog 18 #[] w fun t165 w =>
  R t165 w

theorem law03_DiskPlays_s0_eq (R : Value → World → Prop) : ∀ e w, lift Try.prog 166 (sub (bodyOf Try.f4) [1, 1, 1, 1, 1, 1]) (finK Try.prog Try.f4.results.toList R) e w = law03_DiskPlays_s0 R w := fun e w => by kernel_rfl

def law03_DiskPlays_s1 (R : Value → World → Prop) (N1 : List Value → World → Prop) (x1 x5 x7 x9 : Value) (w : World) : Prop :=
  qG Try.prog (bq .add 3 (.tmp 53) (.const (.int .i64 1)) x9 (.int .i64 1)) w fun t54 =>
  N1 [x1, x5, x7, t54] w

theorem law03_DiskPlays_s1_eq (R : Value → World → Prop) (N1 : List Value → World → Prop) : ∀ e w, lift Try.prog 166 (sub (bodyOf Try.f4) [1, 1, 1, 1, 1, 0, 1, 0, 0, 1, 1]) (seqK (fun e w => N1 [e 1, e 5, e 7, e 9] w) (blockK 0 (seqK (fun e w => law03_DiskPlays_s0 R  w) (finK Try.prog Try.f4.results.toList R)))) e w = law03_DiskPlays_s1 R N1 (e 1) (e 5) (e 7) (e 9) w := fun e w => by kernel_rfl

def law03_DiskPlays_s2 (R : Value → World → Prop) (N1 : List Value → World → Prop) (x1 x5 x7 x9 x11 x12 : Value) (w : World) : Prop :=
  qG Try.prog (bq .neq 24 (.tmp 139) (.tmp 140) x11 x12) (World.drew w) fun t141 =>
  bV t141
  (R (.bool false) (World.drew w))
  (fa 3 x7 fun t145 =>
  ld1 t145 (World.drew w) fun t146 =>
  callG Try.prog 26 #[x5] (World.drew w) fun t144 w =>
  ld1 t145 w (fun u => u = t146) ∧
  qG Try.prog (bq .neq 4 (.tmp 144) (.tmp 146) t144 t146) w fun t147 =>
  bV t147
  (R (.bool false) w)
  (fa 1 x7 fun t152 =>
  ld1 t152 w fun t153 =>
  lenL t153 fun t154 =>
  callG Try.prog 27 #[x5] w fun t151 w =>
  ld1 t152 w (fun u => u = t153) ∧
  qG Try.prog (bq .neq 3 (.tmp 151) (.tmp 154) t151 t154) w fun t155 =>
  bV t155
  (R (.bool false) w)
  (fa 0 x7 fun t160 =>
  ld1 t160 w fun t161 =>
  lenL t161 fun t162 =>
  callG Try.prog 28 #[x5] w fun t159 w =>
  ld1 t160 w (fun u => u = t161) ∧
  qG Try.prog (bq .neq 3 (.tmp 159) (.tmp 162) t159 t162) w fun t163 =>
  bV t163
  (R (.bool false) w)
  (law03_DiskPlays_s1 R N1 x1 x5 x7 x9 w))))

theorem law03_DiskPlays_s2_eq (R : Value → World → Prop) (N1 : List Value → World → Prop) : ∀ e w, lift Try.prog 166 (sub (bodyOf Try.f4) [1, 1, 1, 1, 1, 0, 1, 0, 0, 1, 0, 0, 1, 1, 1, 1]) (blockK 1 (seqK (fun e w => law03_DiskPlays_s1 R N1 (e 1) (e 5) (e 7) (e 9) w) (seqK (fun e w => N1 [e 1, e 5, e 7, e 9] w) (blockK 0 (seqK (fun e w => law03_DiskPlays_s0 R  w) (finK Try.prog Try.f4.results.toList R)))))) e w = law03_DiskPlays_s2 R N1 (e 1) (e 5) (e 7) (e 9) (e 11) (e 12) w := fun e w => by kernel_rfl

def law03_DiskPlays_s3 (R : Value → World → Prop) (N1 : List Value → World → Prop) (x1 x5 x7 x9 x10 x13 : Value) (w : World) : Prop :=
  fa 1 x10 fun t84 =>
  ld1 t84 w fun t85 =>
  callG Try.prog 13 #[x5, t85, x13] w fun t87 w =>
  ldn 4 x7 w fun t89 =>
  fa 1 x10 fun t90 =>
  ld1 t90 w fun t91 =>
  callG Try.prog 20 #[t89, t91, x13] w fun t93 w =>
  qG Try.prog (Instr.extract t93 0) w fun t94 =>
  qG Try.prog (Instr.extract t93 1) w fun t95 =>
  stn 4 x7 t94 w fun w =>
  law03_DiskPlays_s2 R N1 x1 x5 x7 x9 t87 t95 w

theorem law03_DiskPlays_s3_eq (R : Value → World → Prop) (N1 : List Value → World → Prop) : ∀ e w, lift Try.prog 166 (sub (bodyOf Try.f4) [1, 1, 1, 1, 1, 0, 1, 0, 0, 1, 0, 0, 1, 1, 1, 0, 1, 0, 1, 0, 1, 1]) (blockK 2 (seqK (fun e w => law03_DiskPlays_s2 R N1 (e 1) (e 5) (e 7) (e 9) (e 11) (e 12) w) (blockK 1 (seqK (fun e w => law03_DiskPlays_s1 R N1 (e 1) (e 5) (e 7) (e 9) w) (seqK (fun e w => N1 [e 1, e 5, e 7, e 9] w) (blockK 0 (seqK (fun e w => law03_DiskPlays_s0 R  w) (finK Try.prog Try.f4.results.toList R)))))))) e w = law03_DiskPlays_s3 R N1 (e 1) (e 5) (e 7) (e 9) (e 10) (e 13) w := fun e w => by kernel_rfl

def law03_DiskPlays_s4 (R : Value → World → Prop) (N1 : List Value → World → Prop) (x1 x5 x7 x9 x10 : Value) (w : World) : Prop :=
  fa 3 x10 fun t76 =>
  ld1 t76 w fun t77 =>
  qG Try.prog (bq .eql 9 (.tmp 78) (.const (.string ⟨#[]⟩)) t77 (.string ⟨#[]⟩)) w fun t79 =>
  bV t79
  (fa 2 x10 fun t80 =>
  ld1 t80 w fun t81 =>
  callG Try.prog 14 #[t81] w fun t82 w =>
  law03_DiskPlays_s3 R N1 x1 x5 x7 x9 x10 t82 w)
  (law03_DiskPlays_s3 R N1 x1 x5 x7 x9 x10 t77 w)

theorem law03_DiskPlays_s4_eq (R : Value → World → Prop) (N1 : List Value → World → Prop) : ∀ e w, lift Try.prog 166 (sub (bodyOf Try.f4) [1, 1, 1, 1, 1, 0, 1, 0, 0, 1, 0, 0, 1, 1, 1, 0, 1, 0, 1, 0]) (blockK 2 (seqK (fun e w => law03_DiskPlays_s2 R N1 (e 1) (e 5) (e 7) (e 9) (e 11) (e 12) w) (blockK 1 (seqK (fun e w => law03_DiskPlays_s1 R N1 (e 1) (e 5) (e 7) (e 9) w) (seqK (fun e w => N1 [e 1, e 5, e 7, e 9] w) (blockK 0 (seqK (fun e w => law03_DiskPlays_s0 R  w) (finK Try.prog Try.f4.results.toList R)))))))) e w = law03_DiskPlays_s4 R N1 (e 1) (e 5) (e 7) (e 9) (e 10) w :=
  segs_eq (l := [(sub (bodyOf Try.f4) [1, 1, 1, 1, 1, 0, 1, 0, 0, 1, 0, 0, 1, 1, 1, 0, 1, 0, 1, 0, 0]), (sub (bodyOf Try.f4) [1, 1, 1, 1, 1, 0, 1, 0, 0, 1, 0, 0, 1, 1, 1, 0, 1, 0, 1, 0, 1, 0])]) (y := (sub (bodyOf Try.f4) [1, 1, 1, 1, 1, 0, 1, 0, 0, 1, 0, 0, 1, 1, 1, 0, 1, 0, 1, 0, 1, 1])) (Y := (fun e w => law03_DiskPlays_s3 R N1 (e 1) (e 5) (e 7) (e 9) (e 10) (e 13) w)) (law03_DiskPlays_s3_eq R N1) (fun e w => by kernel_rfl)

def law03_DiskPlays_s5 (R : Value → World → Prop) (N1 : List Value → World → Prop) (x1 x5 x7 x9 x10 x11 x12 x65 : Value) (w : World) : Prop :=
  qG Try.prog (bq .eql 3 (.tmp 65) (.const (.int .i64 2)) x65 (.int .i64 2)) w fun t97 =>
  bV t97
  (fa 1 x10 fun t100 =>
  ld1 t100 w fun t101 =>
  callG Try.prog 17 #[x5, t101] w fun t102 w =>
  qG Try.prog (Instr.extract t102 0) w fun t103 =>
  qG Try.prog (Instr.extract t102 1) w fun t104 =>
  ldn 4 x7 w fun t106 =>
  fa 1 x10 fun t107 =>
  ld1 t107 w fun t108 =>
  callG Try.prog 21 #[t106, t108] w fun t109 w =>
  qG Try.prog (Instr.extract t109 0) w fun t110 =>
  qG Try.prog (Instr.extract t109 1) w fun t111 =>
  qG Try.prog (bq .neq 9 (.tmp 112) (.tmp 113) t103 t110) w fun t114 =>
  bV t114
  (R (.bool false) w)
  (qG Try.prog (bq .neq 24 (.tmp 116) (.tmp 117) t104 t111) w fun t118 =>
  bV t118
  (R (.bool false) w)
  (law03_DiskPlays_s2 R N1 x1 x5 x7 x9 x11 x12 w)))
  (qG Try.prog (bq .eql 3 (.tmp 65) (.const (.int .i64 3)) x65 (.int .i64 3)) w fun t121 =>
  bV t121
  (callG Try.prog 15 #[x5] w fun t123 w =>
  ldn 4 x7 w fun t125 =>
  callG Try.prog 22 #[t125] w fun t126 w =>
  qG Try.prog (Instr.extract t126 0) w fun t127 =>
  qG Try.prog (Instr.extract t126 1) w fun t128 =>
  stn 4 x7 t127 w fun w =>
  law03_DiskPlays_s2 R N1 x1 x5 x7 x9 t123 t128 w)
  (qG Try.prog (bq .eql 3 (.tmp 65) (.const (.int .i64 4)) x65 (.int .i64 4)) w fun t130 =>
  bV t130
  (fa 1 x10 fun t132 =>
  ld1 t132 w fun t133 =>
  callG Try.prog 23 #[x5, t133] w fun t134 w =>
  ldn 4 x7 w fun t135 =>
  fa 1 x10 fun t136 =>
  ld1 t136 w fun t137 =>
  callG Try.prog 24 #[t135, t137] w fun t138 w =>
  stn 4 x7 t138 w fun w =>
  law03_DiskPlays_s2 R N1 x1 x5 x7 x9 t134 x12 w)
  (fa 4 x10 fun t67 =>
  ld1 t67 w fun t68 =>
  callG Try.prog 16 #[x5, t68] w fun t69 w =>
  ldn 4 x7 w fun t70 =>
  fa 4 x10 fun t71 =>
  ld1 t71 w fun t72 =>
  callG Try.prog 25 #[t70, t72] w fun t73 w =>
  stn 4 x7 t73 w fun w =>
  law03_DiskPlays_s2 R N1 x1 x5 x7 x9 t69 x12 w)))

theorem law03_DiskPlays_s5_eq (R : Value → World → Prop) (N1 : List Value → World → Prop) : ∀ e w, lift Try.prog 166 (sub (bodyOf Try.f4) [1, 1, 1, 1, 1, 0, 1, 0, 0, 1, 0, 0, 1, 1, 1, 0, 1, 0, 1, 1]) (blockK 2 (seqK (fun e w => law03_DiskPlays_s2 R N1 (e 1) (e 5) (e 7) (e 9) (e 11) (e 12) w) (blockK 1 (seqK (fun e w => law03_DiskPlays_s1 R N1 (e 1) (e 5) (e 7) (e 9) w) (seqK (fun e w => N1 [e 1, e 5, e 7, e 9] w) (blockK 0 (seqK (fun e w => law03_DiskPlays_s0 R  w) (finK Try.prog Try.f4.results.toList R)))))))) e w = law03_DiskPlays_s5 R N1 (e 1) (e 5) (e 7) (e 9) (e 10) (e 11) (e 12) (e 65) w := fun e w => by kernel_rfl

def law03_DiskPlays_s6 (R : Value → World → Prop) (N1 : List Value → World → Prop) (x1 x5 x7 x9 x10 x11 x12 x65 x74 : Value) (w : World) : Prop :=
  bV x74 (law03_DiskPlays_s4 R N1 x1 x5 x7 x9 x10 w) (law03_DiskPlays_s5 R N1 x1 x5 x7 x9 x10 x11 x12 x65 w)

theorem law03_DiskPlays_s6_eq (R : Value → World → Prop) (N1 : List Value → World → Prop) : ∀ e w, lift Try.prog 166 (sub (bodyOf Try.f4) [1, 1, 1, 1, 1, 0, 1, 0, 0, 1, 0, 0, 1, 1, 1, 0, 1, 0, 1]) (blockK 2 (seqK (fun e w => law03_DiskPlays_s2 R N1 (e 1) (e 5) (e 7) (e 9) (e 11) (e 12) w) (blockK 1 (seqK (fun e w => law03_DiskPlays_s1 R N1 (e 1) (e 5) (e 7) (e 9) w) (seqK (fun e w => N1 [e 1, e 5, e 7, e 9] w) (blockK 0 (seqK (fun e w => law03_DiskPlays_s0 R  w) (finK Try.prog Try.f4.results.toList R)))))))) e w = law03_DiskPlays_s6 R N1 (e 1) (e 5) (e 7) (e 9) (e 10) (e 11) (e 12) (e 65) (e 74) w := fun e w => (cond_seg (law03_DiskPlays_s4_eq R N1) (law03_DiskPlays_s5_eq R N1) e w).trans (by kernel_rfl)

def law03_DiskPlays_s7 (R : Value → World → Prop) (N1 : List Value → World → Prop) (x1 x5 x7 x9 x10 x11 x12 x65 : Value) (w : World) : Prop :=
  qG Try.prog (bq .eql 3 (.tmp 65) (.const (.int .i64 1)) x65 (.int .i64 1)) w fun t75 =>
  law03_DiskPlays_s6 R N1 x1 x5 x7 x9 x10 x11 x12 x65 t75 w

theorem law03_DiskPlays_s7_eq (R : Value → World → Prop) (N1 : List Value → World → Prop) : ∀ e w, lift Try.prog 166 (sub (bodyOf Try.f4) [1, 1, 1, 1, 1, 0, 1, 0, 0, 1, 0, 0, 1, 1, 1, 0, 1, 0]) (blockK 2 (seqK (fun e w => law03_DiskPlays_s2 R N1 (e 1) (e 5) (e 7) (e 9) (e 11) (e 12) w) (blockK 1 (seqK (fun e w => law03_DiskPlays_s1 R N1 (e 1) (e 5) (e 7) (e 9) w) (seqK (fun e w => N1 [e 1, e 5, e 7, e 9] w) (blockK 0 (seqK (fun e w => law03_DiskPlays_s0 R  w) (finK Try.prog Try.f4.results.toList R)))))))) e w = law03_DiskPlays_s7 R N1 (e 1) (e 5) (e 7) (e 9) (e 10) (e 11) (e 12) (e 65) w :=
  segs_eq (l := [(sub (bodyOf Try.f4) [1, 1, 1, 1, 1, 0, 1, 0, 0, 1, 0, 0, 1, 1, 1, 0, 1, 0, 0])]) (y := (sub (bodyOf Try.f4) [1, 1, 1, 1, 1, 0, 1, 0, 0, 1, 0, 0, 1, 1, 1, 0, 1, 0, 1])) (Y := (fun e w => law03_DiskPlays_s6 R N1 (e 1) (e 5) (e 7) (e 9) (e 10) (e 11) (e 12) (e 65) (e 74) w)) (law03_DiskPlays_s6_eq R N1) (fun e w => by kernel_rfl)

def law03_DiskPlays_s8 (R : Value → World → Prop) (N1 : List Value → World → Prop) (x1 x5 x7 x9 x10 x11 x12 : Value) (w : World) : Prop :=
  fa 0 x10 fun t64 =>
  ld1 t64 w fun t65 =>
  law03_DiskPlays_s7 R N1 x1 x5 x7 x9 x10 x11 x12 t65 w

theorem law03_DiskPlays_s8_eq (R : Value → World → Prop) (N1 : List Value → World → Prop) : ∀ e w, lift Try.prog 166 (sub (bodyOf Try.f4) [1, 1, 1, 1, 1, 0, 1, 0, 0, 1, 0, 0, 1, 1, 1, 0]) (seqK (fun e w => law03_DiskPlays_s2 R N1 (e 1) (e 5) (e 7) (e 9) (e 11) (e 12) w) (blockK 1 (seqK (fun e w => law03_DiskPlays_s1 R N1 (e 1) (e 5) (e 7) (e 9) w) (seqK (fun e w => N1 [e 1, e 5, e 7, e 9] w) (blockK 0 (seqK (fun e w => law03_DiskPlays_s0 R  w) (finK Try.prog Try.f4.results.toList R))))))) e w = law03_DiskPlays_s8 R N1 (e 1) (e 5) (e 7) (e 9) (e 10) (e 11) (e 12) w :=
  segs_eq (l := [(sub (bodyOf Try.f4) [1, 1, 1, 1, 1, 0, 1, 0, 0, 1, 0, 0, 1, 1, 1, 0, 0])]) (y := (sub (bodyOf Try.f4) [1, 1, 1, 1, 1, 0, 1, 0, 0, 1, 0, 0, 1, 1, 1, 0, 1])) (Y := (fun e w => law03_DiskPlays_s7 R N1 (e 1) (e 5) (e 7) (e 9) (e 10) (e 11) (e 12) (e 65) w)) (law03_DiskPlays_s7_eq R N1) (fun e w => by kernel_rfl)

def law03_DiskPlays_s9 (R : Value → World → Prop) (N1 : List Value → World → Prop) (x1 x5 x7 x9 : Value) (w : World) : Prop :=
  ia 5 x1 x9 fun t57 =>
  ldn 5 t57 w fun t58 =>
  newG (zc Try.prog 43) 43 w fun t10 w =>
  stn 5 t10 t58 w fun w =>
  fa 3 t10 fun t59 =>
  ld1 t59 w fun t60 =>
  lenS t60 fun t61 =>
  qG Try.prog (bq .gtr 3 (.tmp 61) (.const (.int .i64 100)) t61 (.int .i64 100)) w fun t62 =>
  bV t62
  (callG Try.prog 18 #[] w fun t63 w =>
  R t63 w)
  (law03_DiskPlays_s8 R N1 x1 x5 x7 x9 t10 (.int .i64 0) (.int .i64 0) w)

theorem law03_DiskPlays_s9_eq (R : Value → World → Prop) (N1 : List Value → World → Prop) : ∀ e w, lift Try.prog 166 (sub (bodyOf Try.f4) [1, 1, 1, 1, 1, 0, 1, 0, 0, 1, 0, 0]) (blockK 1 (seqK (fun e w => law03_DiskPlays_s1 R N1 (e 1) (e 5) (e 7) (e 9) w) (seqK (fun e w => N1 [e 1, e 5, e 7, e 9] w) (blockK 0 (seqK (fun e w => law03_DiskPlays_s0 R  w) (finK Try.prog Try.f4.results.toList R)))))) e w = law03_DiskPlays_s9 R N1 (e 1) (e 5) (e 7) (e 9) w :=
  segs_eq (l := [(sub (bodyOf Try.f4) [1, 1, 1, 1, 1, 0, 1, 0, 0, 1, 0, 0, 0]), (sub (bodyOf Try.f4) [1, 1, 1, 1, 1, 0, 1, 0, 0, 1, 0, 0, 1, 0]), (sub (bodyOf Try.f4) [1, 1, 1, 1, 1, 0, 1, 0, 0, 1, 0, 0, 1, 1, 0])]) (y := (sub (bodyOf Try.f4) [1, 1, 1, 1, 1, 0, 1, 0, 0, 1, 0, 0, 1, 1, 1])) (Y := (fun e w => law03_DiskPlays_s8 R N1 (e 1) (e 5) (e 7) (e 9) (e 10) (e 11) (e 12) w)) (seq_seg (x := (sub (bodyOf Try.f4) [1, 1, 1, 1, 1, 0, 1, 0, 0, 1, 0, 0, 1, 1, 1, 0])) (y := (sub (bodyOf Try.f4) [1, 1, 1, 1, 1, 0, 1, 0, 0, 1, 0, 0, 1, 1, 1, 1])) (law03_DiskPlays_s2_eq R N1) (law03_DiskPlays_s8_eq R N1)) (fun e w => by kernel_rfl)

def law03_DiskPlays_s10 (R : Value → World → Prop) (N1 : List Value → World → Prop) (x1 x5 x7 x9 : Value) (w : World) : Prop :=
  lenL x1 fun t47 =>
  qG Try.prog (bq .lss 3 (.tmp 45) (.tmp 47) x9 t47) w fun t48 =>
  bV t48
  (qG Try.prog (bq .lss 3 (.tmp 50) (.const (.int .i64 80)) x9 (.int .i64 80)) w fun t51 =>
  bV t51
  (law03_DiskPlays_s9 R N1 x1 x5 x7 x9 w)
  (law03_DiskPlays_s0 R  w))
  (law03_DiskPlays_s0 R  w)

theorem law03_DiskPlays_s10_eq (R : Value → World → Prop) (N1 : List Value → World → Prop) : ∀ e w, lift Try.prog 166 (sub (bodyOf Try.f4) [1, 1, 1, 1, 1, 0, 1, 0, 0]) (seqK (fun e w => N1 [e 1, e 5, e 7, e 9] w) (blockK 0 (seqK (fun e w => law03_DiskPlays_s0 R  w) (finK Try.prog Try.f4.results.toList R)))) e w = law03_DiskPlays_s10 R N1 (e 1) (e 5) (e 7) (e 9) w :=
  segs_eq (l := [(sub (bodyOf Try.f4) [1, 1, 1, 1, 1, 0, 1, 0, 0, 0])]) (y := (sub (bodyOf Try.f4) [1, 1, 1, 1, 1, 0, 1, 0, 0, 1])) (Y := (fun e w => law03_DiskPlays_s9 R N1 (e 1) (e 5) (e 7) (e 9) w)) (seq_seg (x := (sub (bodyOf Try.f4) [1, 1, 1, 1, 1, 0, 1, 0, 0, 1, 0])) (y := (sub (bodyOf Try.f4) [1, 1, 1, 1, 1, 0, 1, 0, 0, 1, 1])) (law03_DiskPlays_s1_eq R N1) (law03_DiskPlays_s9_eq R N1)) (fun e w => by kernel_rfl)

def law03_DiskPlays_L11F (R : Value → World → Prop) (N1 : List Value → World → Prop) (xs : List Value) (w : World) : Prop :=
  match xs with
  | [x1, x5, x7, x9] => law03_DiskPlays_s10 R N1 x1 x5 x7 x9 w
  | _ => False

def law03_DiskPlays_L11 (R : Value → World → Prop) (x1 x5 x7 x9 : Value) (w : World) : Prop :=
  ∃ m, loopV (law03_DiskPlays_L11F R) m [x1, x5, x7, x9] w

theorem law03_DiskPlays_L11_eq (R : Value → World → Prop) : ∀ e w, lift Try.prog 166 (sub (bodyOf Try.f4) [1, 1, 1, 1, 1, 0, 1, 0]) (blockK 0 (seqK (fun e w => law03_DiskPlays_s0 R  w) (finK Try.prog Try.f4.results.toList R))) e w = law03_DiskPlays_L11 R (e 1) (e 5) (e 7) (e 9) w := loop_seg (F := law03_DiskPlays_L11F R) (sel := fun e => [e 1, e 5, e 7, e 9]) fun N1 => (law03_DiskPlays_s10_eq R N1)

def law03_DiskPlays_s12 (R : Value → World → Prop) (x1 x5 x7 : Value) (w : World) : Prop :=
  law03_DiskPlays_L11 R x1 x5 x7 (.int .i64 0) w

theorem law03_DiskPlays_s12_eq (R : Value → World → Prop) : ∀ e w, lift Try.prog 166 (sub (bodyOf Try.f4) [1, 1, 1, 1, 1, 0]) (seqK (fun e w => law03_DiskPlays_s0 R  w) (finK Try.prog Try.f4.results.toList R)) e w = law03_DiskPlays_s12 R (e 1) (e 5) (e 7) w :=
  segs_eq (l := [(sub (bodyOf Try.f4) [1, 1, 1, 1, 1, 0, 0])]) (y := (sub (bodyOf Try.f4) [1, 1, 1, 1, 1, 0, 1])) (Y := (fun e w => law03_DiskPlays_L11 R (e 1) (e 5) (e 7) (e 9) w)) (law03_DiskPlays_L11_eq R) (fun e w => by kernel_rfl)

def law03_DiskPlays_s13 (R : Value → World → Prop) (x0 x1 x5 x7 : Value) (w : World) : Prop :=
  qG Try.prog (bq .eql 23 (.tmp 38) (.const (.pointer none)) x5 (.pointer none)) w fun t39 =>
  bV t39
  (callG Try.prog 18 #[] w fun t44 w =>
  R t44 w)
  (qG Try.prog (bq .gtr 3 (.tmp 41) (.const (.int .i64 64)) x0 (.int .i64 64)) w fun t42 =>
  bV t42
  (callG Try.prog 18 #[] w fun t44_1 w =>
  R t44_1 w)
  (law03_DiskPlays_s12 R x1 x5 x7 w))

theorem law03_DiskPlays_s13_eq (R : Value → World → Prop) : ∀ e w, lift Try.prog 166 (sub (bodyOf Try.f4) [1, 1, 1, 1]) (finK Try.prog Try.f4.results.toList R) e w = law03_DiskPlays_s13 R (e 0) (e 1) (e 5) (e 7) w :=
  segs_eq (l := [(sub (bodyOf Try.f4) [1, 1, 1, 1, 0])]) (y := (sub (bodyOf Try.f4) [1, 1, 1, 1, 1])) (Y := (fun e w => law03_DiskPlays_s12 R (e 1) (e 5) (e 7) w)) (seq_seg (x := (sub (bodyOf Try.f4) [1, 1, 1, 1, 1, 0])) (y := (sub (bodyOf Try.f4) [1, 1, 1, 1, 1, 1])) (law03_DiskPlays_s0_eq R) (law03_DiskPlays_s12_eq R)) (fun e w => by kernel_rfl)

def law03_DiskPlays_s14 (R : Value → World → Prop) (x0 x1 : Value) (w : World) : Prop :=
  callG Try.prog 12 #[x0] w fun t20 w =>
  qG Try.prog (Instr.extract t20 0) w fun t21 =>
  qG Try.prog (Instr.extract t20 1) w fun t22 =>
  callG Try.prog 19 #[x0] w fun t25 w =>
  qG Try.prog (Instr.extract t25 0) w fun t26 =>
  qG Try.prog (Instr.extract t25 1) w fun t27 =>
  newG (zc Try.prog 39) 39 w fun t7 w =>
  stn 4 t7 t26 w fun w =>
  qG Try.prog (bq .neq 24 (.tmp 28) (.tmp 29) t22 t27) w fun t30 =>
  bV t30
  (R (.bool false) w)
  (qG Try.prog (bq .neq 23 (.tmp 32) (.const (.pointer none)) t21 (.pointer none)) w fun t33 =>
  qG Try.prog (bq .eql 24 (.tmp 34) (.const (.int .i64 0)) t27 (.int .i64 0)) w fun t35 =>
  qG Try.prog (bq .neq 4 (.tmp 33) (.tmp 35) t33 t35) w fun t36 =>
  bV t36
  (R (.bool false) w)
  (law03_DiskPlays_s13 R x0 x1 t21 t7 w))

theorem law03_DiskPlays_s14_eq (R : Value → World → Prop) : ∀ e w, lift Try.prog 166 (bodyOf Try.f4) (finK Try.prog Try.f4.results.toList R) e w = law03_DiskPlays_s14 R (e 0) (e 1) w :=
  segs_eq (l := [(sub (bodyOf Try.f4) [0]), (sub (bodyOf Try.f4) [1, 0]), (sub (bodyOf Try.f4) [1, 1, 0]), (sub (bodyOf Try.f4) [1, 1, 1, 0])]) (y := (sub (bodyOf Try.f4) [1, 1, 1, 1])) (Y := (fun e w => law03_DiskPlays_s13 R (e 0) (e 1) (e 5) (e 7) w)) (law03_DiskPlays_s13_eq R) (fun e w => by kernel_rfl)

def law03_DiskPlays (R : Value → World → Prop) (x0 x1 : Value) (w : World) : Prop := law03_DiskPlays_s14 R x0 x1 w
theorem law03_DiskPlays_call {R : Value → World → Prop} {x0 x1 : Value} {w : World} (h : law03_DiskPlays R x0 x1 w) : callG Try.prog 4 #[x0, x1] w R :=
  calls_lift_eq Try.mixed Try.func4 (args := [x0, x1]) rfl rfl rfl rfl ((law03_DiskPlays_s14_eq R) (envOf [x0, x1]) w) (by kernel_rfl) h
end Go.Proofs

/- The document's disk (the reference): what each function does. Its lists are never written over. -/
set_option linter.unusedVariables false
set_option linter.unusedSimpArgs false
namespace Go.Proofs
open Go Go.Q
theorem Try.agg39 : aggO Try.prog 39 = some true := by kernel_rfl
theorem Try.sz39 : szO Try.prog 39 = some 4 := by kernel_rfl
theorem lv39 {b : Nat} {w : World} {c : Array Value} {T : TypeId} {fr : Nat × Nat} (hh : w.heap[b]? = some (.cells c T fr)) (hs : c.size = 4) {K : Value → Prop} :
    qG Try.prog (do loadVar 39 (← asAddr (.pointer (some ⟨b, 0, none⟩)))) w K = K (.agg c) := by
  refine qG_of ?_
  have h : ldn 4 (.pointer (some ⟨b, 0, none⟩)) w (fun v => v = .agg c) := by
    rw [ldn_p]; unfold rdN; simp only [hh, true_and, hs, Nat.zero_add, Nat.le_refl]
    have : c.extract 0 4 = c := by rw [← hs]; simp
    rw [this]
  obtain ⟨v, hr, hv⟩ := ldn_q (P := Try.prog) Try.agg39 Try.sz39 h
  subst hv
  exact hr
def qc (sv lv : Value) (d : DK) : Array Value := #[sv, lv, .int .i64 d.fuse, .bool d.off]
theorem zc39 : zc Try.prog 39 = #[.slice none 0 0, .slice none 0 0, .int .i64 0, .bool false] := by kernel_rfl
def strV (s : List UInt8) : List Value := [.string (str s)]
def wroteV (x : Nat × List UInt8) : List Value := [.int .i64 x.1, .string (str x.2)]
theorem newG2 {w : World} {c1 c2 : Array Value} {T1 T2 : TypeId} {K : Value → Value → World → Prop}
    (h : ∀ a b w1, w.heap.size ≤ a → w.heap.size ≤ b → ¬ a = b → ¬ b = a → w1.heap[a]? = some (.cells c1 T1) → w1.heap[b]? = some (.cells c2 T2) → Live w1 a → Live w1 b → Kp [] w w1 →
      K (.pointer (some ⟨a, 0, none⟩)) (.pointer (some ⟨b, 0, none⟩)) w1) :
    newG c1 T1 w fun x w => newG c2 T2 w fun y w => K x y w := by
  rw [newG_k, newG_k]
  refine h _ _ _ (Nat.le_refl _) (by simp) (by simp) (by simp) ?_ heap_new ?_ ?_ (((Kp.refl [] w).alloc _).alloc _)
  · rw [heap_alloc, if_neg (by simp), heap_new]
  · unfold Live; simp; omega
  · unfold Live; simp
theorem lvS {b : Nat} {w : World} {c : Array Value} {T : TypeId} {fr : Nat × Nat} (hb : Live w b) (hs : c.size = 4) {K : Value → Prop} :
    qG Try.prog (do loadVar 39 (← asAddr (.pointer (some ⟨b, 0, none⟩)))) (setBlk w b (.cells c T fr)) K = K (.agg c) := lv39 (heap_self hb) hs
theorem spl4 {a b c d x y z u : Value} : splice #[a, b, c, d] 0 #[x, y, z, u] = #[x, y, z, u] := rfl
theorem one4 {a b c d : Value} : (#[a, b, c, d] : Array Value).all one = (one a && (one b && (one c && one d))) := by
  rw [← Array.all_toList]; simp
theorem one2 {a b : Value} : (#[a, b] : Array Value).all one = (one a && one b) := by
  rw [← Array.all_toList]; simp
theorem one4p {a b c d : Value} (ha : one a = true) (hb : one b = true) (hc : one c = true) (hd : one d = true) : ∀ (i : Nat) (x : i < 4), one ([a, b, c, d] : List Value)[i] = true := by
  intro i hi
  match i, hi with
  | 0, _ => exact ha
  | 1, _ => exact hb
  | 2, _ => exact hc
  | 3, _ => exact hd
theorem one_i {k : IntKind} {n : Int} : one (.int k n) = true := rfl
theorem one_b {t : Bool} : one (.bool t) = true := rfl
theorem ref_burns {w : World} {sv lv : Value} {d : DK} (hs : one sv = true) (hl : one lv = true) (hf : -1 ≤ d.fuse ∧ d.fuse < 9223372036854775808) {K : Value → World → Prop}
    (hK : ∀ w', Kp [] w w' → K (.tuple #[.agg (qc sv lv d.burns.1), .bool d.burns.2]) w') : callG Try.prog 47 #[.agg (qc sv lv d)] w K := by
  refine ref03_burns_call ?_
  simp only [ref03_burns, ref03_burns_s3]
  refine newG2 fun a b w1 ha hb hab hba hA hB la lb hk => ?_
  have hc : Value.cells (.agg (qc sv lv d)) = qc sv lv d := rfl
  rw [hc] at hA
  simp only [qc, zc39] at hA hB
  have hk1 : ∀ o o', Kp [] w (setBlk (setBlk w1 a o) b o') := fun o o' => (hk.setBlk (.inr ha) _).setBlk (.inr hb) _
  have hk2 : ∀ o, Kp [] w (setBlk w1 b o) := fun o => hk.setBlk (.inr hb) _
  simp [-getElem?_pos, -Array.getElem?_eq_getElem, -List.length_flatten, List.getElem?_cons_zero, List.getElem?_cons_succ, ref03_burns_s2, ref03_burns_s1, ref03_burns_s0, hA, hB, heap_self, heap_ne, hab, hba, la, lb, -Array.all_eq_true, lvS, spl4, one4, one_i, one_b, hs, hl]
  unfold DK.burns qc at hK
  refine ⟨fun ho => ?_, fun ho => ⟨fun h0 => ?_, fun h0 => ⟨fun hp => ?_, fun hp => ?_⟩⟩⟩
  · rw [if_pos (.inl ho)] at hK
    exact hK _ (hk1 _ _)
  · rw [if_pos (.inr h0)] at hK
    exact hK _ (hk1 _ _)
  · rw [if_neg (by simp [ho, h0])] at hK
    rw [w64 (by omega) (by omega)]
    have := hK _ (hk1 (.cells #[sv, lv, .int .i64 (d.fuse - 1), .bool d.off] 39) (.cells #[sv, lv, .int .i64 (d.fuse - 1), .bool d.off] 39))
    simpa [hp] using this
  · rw [if_neg (by simp [ho, h0])] at hK
    have := hK _ (hk2 (.cells #[sv, lv, .int .i64 d.fuse, .bool d.off] 39))
    have hp' : ¬ d.fuse > 0 := by omega
    simpa [hp'] using this
/-- the document's disk: a struct of two lists, a fuse, and whether the power is off -/
def RefAt (w : World) (x : Value) (d : DK) (S : List Nat) : Prop :=
  ∃ sv lv SS SL, x = .agg (qc sv lv d) ∧ RowsAt w sv 1 (d.sure.map strV) SS ∧ RowsAt w lv 2 (d.l.map wroteV) SL ∧ S = SS ++ SL
theorem RefAt.keep {w w' : World} {x : Value} {d : DK} {S S' : List Nat} (h : RefAt w x d S) (hk : Kp S' w w') (hd : ∀ y ∈ S, y ∉ S') : RefAt w' x d S := by
  obtain ⟨sv, lv, SS, SL, h1, h2, h3, rfl⟩ := h
  exact ⟨sv, lv, SS, SL, h1, h2.keep hk (fun y hy => hd y (by simp [hy])), h3.keep hk (fun y hy => hd y (by simp [hy])), rfl⟩
theorem rows_one {w : World} {v : Value} {k : Nat} {rows : List (List Value)} {S : List Nat} (h : RowsAt w v k rows S) : one v = true := by
  obtain ⟨a, c, h, _⟩ := h.len
  rw [h]; rfl
theorem strV_one (L : List (List UInt8)) : (L.map strV).flatten.all Q.one = true := by
  induction L with
  | nil => rfl
  | cons x r ih => simp [strV, Q.one] at ih ⊢
theorem wroteV_one (L : List (Nat × List UInt8)) : (L.map wroteV).flatten.all Q.one = true := by
  induction L with
  | nil => rfl
  | cons x r ih => simp [wroteV, Q.one] at ih ⊢
theorem zc9 : zc Try.prog 9 = [Value.string ⟨#[]⟩].toArray := by kernel_rfl
theorem zc97 : zc Try.prog 97 = [Value.int .i64 0, Value.string ⟨#[]⟩].toArray := by kernel_rfl
theorem ref_with {w : World} {sv : Value} {L : List (List UInt8)} {S : List Nat} (h : RowsAt w sv 1 (L.map strV) S) {p : Nat} (hp : p < L.length) (hL : L.length < 2 ^ 40) (s : List UInt8) {K : Value → World → Prop}
    (hK : ∀ v' w' S', RowsAt w' v' 1 ((L.set p s).map strV) S' → Kp [] w w' → (∀ y ∈ S', w.heap.size ≤ y) → K v' w') : callG Try.prog 48 #[sv, .int .i64 p, .string (str s)] w K := by
  refine ref03_with_call ?_
  simp only [ref03_with, ref03_with_s0]
  obtain ⟨v1, hv1, e1⟩ := h.rd.take (p := p) (by simp; omega) (kd := .i64)
  rw [e1, zc9]
  have hone1 : (((L.map strV).take p)).flatten.all Q.one = true := by rw [← List.map_take]; exact strV_one _
  refine rows_app (k := 1) (z := [.string ⟨#[]⟩]) (rows := []) (G := (L.map strV).take p) (S := []) (.inl ⟨rfl, rfl, rfl⟩) (by omega) rfl (fun y hy => hv1.row hy) hone1 (fun K' hK' => hv1.src K' hK') (by simp; omega) (by simp; omega) fun v2 w2 S2 h2 hk2 hS2 => ?_
  rw [bsl_one rfl]
  obtain ⟨w3, hw3⟩ : ∃ w3, w3 = w2.alloc (.cells #[.string (str s)] 9) := ⟨_, rfl⟩
  have hk3 : Kp [] w2 w3 := by rw [hw3]; exact (Kp.refl [] w2).alloc _
  have hb3 : w3.heap[w2.heap.size]? = some (.cells #[.string (str s)] 9) := by rw [hw3]; exact heap_new
  rw [← hw3]
  have h3 := h2.keep hk3 (by simp)
  have hs3 : RdAt w3 (.slice (some ⟨w2.heap.size, 0, none⟩) 1 1) 1 [strV s] [w2.heap.size] :=
    .inr ⟨_, 0, 1, _, _, _, rfl, rfl, hb3, by simp [strV], by simp, by simp [strV], by simp⟩
  refine rows_app (k := 1) (z := [.string ⟨#[]⟩]) (G := [strV s]) h3 (by omega) rfl (by simp [strV]) (by simp [strV, Q.one]) (fun K' hK' => hs3.src K' hK') (by simp; omega) (by simp; omega) fun v4 w4 S4 h4 hk4 hS4 => ?_
  have hk24 : Kp [] w w4 := by
    refine (hk2.trans' hk3).trans hk4 fun y hy hlt => ?_
    rcases hS2 y hy with h | h
    · cases h
    · omega
  have hp1 : IntKind.i64.wrap ((p : Int) + 1) = ((p + 1 : Nat) : Int) := by rw [w64 (by omega) (by omega)]; simp
  simp only [bq_add, hp1]
  obtain ⟨v5, hv5, e5⟩ := h.rd.drop (p := p + 1) (by simp; omega) (kd := .i64)
  rw [e5]
  have hv5 := hv5.keep hk24 (by simp)
  have hone5 : (((L.map strV).drop (p + 1))).flatten.all Q.one = true := by rw [← List.map_drop]; exact strV_one _
  refine rows_app (k := 1) (z := [.string ⟨#[]⟩]) (G := (L.map strV).drop (p + 1)) h4 (by omega) rfl (fun y hy => hv5.row hy) hone5 (fun K' hK' => hv5.src K' hK') (by simp; omega) (by simp; omega) fun v6 w6 S6 h6 hk6 hS6 => ?_
  have hset : [] ++ (L.map strV).take p ++ [strV s] ++ (L.map strV).drop (p + 1) = (L.set p s).map strV := by
    rw [List.map_set, List.set_eq_take_append_cons_drop, if_pos (by simpa using hp)]
    simp
  rw [hset] at h6
  have hn4 : ∀ y ∈ S4, w.heap.size ≤ y := fun y hy => by
    rcases hS4 y hy with h | h
    · rcases hS2 y h with h | h
      · cases h
      · exact h
    · have := hk2.size; have := hk3.size; omega
  refine hK v6 w6 S6 h6 (hk24.trans hk6 fun y hy hlt => by have := hn4 y hy; omega) fun y hy => ?_
  rcases hS6 y hy with h | h
  · exact hn4 y h
  · have := hk24.size; omega
theorem bsl_agg {e n : Nat} {z cs : Array Value} (hc : cs.size = n) {w : World} {k : Value → World → Prop} : bsl e n 1 z #[(0, .agg cs)] w k = k (.slice (some ⟨w.heap.size, 0, none⟩) 1 1) (w.alloc (.cells cs e)) := by
  have hr : (rep z (1 * n)).size = n := by simp [rep]
  unfold bsl
  show (match Instr.fill (fun i => some (i * n, n)) (rep z (1 * n)) [(0, Value.agg cs)] with | some cs => k (Value.slice (some ⟨w.heap.size, 0, none⟩) 1 1) (w.alloc (Obj.cells cs e)) | none => False) = _
  rw [fill_step (off := 0) (size := n) (by simp) (show (Value.agg cs).cells.size = n from hc) (by omega)]
  have e : splice (rep z (1 * n)) 0 (Value.cells (.agg cs)) = cs := splice_all (by rw [hr]; exact hc.symm)
  simp only [Instr.fill, e]
theorem bld97 {x y : Value} (hx : one x = true) (hy : one y = true) {k : Value → Prop} : bld [(0, 1), (1, 1)] (zc Try.prog 97) #[(0, x), (1, y)] k = k (.agg #[x, y]) := by
  have hcx := cells_one hx
  have hcy := cells_one hy
  rw [zc97]
  unfold bld
  rw [fill_step (off := 0) (size := 1) rfl (by rw [hcx]; rfl) (by simp), hcx, fill_step (off := 1) (size := 1) rfl (by rw [hcy]; rfl) (by simp [splice]), hcy]
  rfl
theorem bld39 {x y : Value} (hx : one x = true) (hy : one y = true) {k : Value → Prop} : bld [(0, 1), (1, 1), (2, 1), (3, 1)] (zc Try.prog 39) #[(0, x), (2, y)] k = k (.agg #[x, .slice none 0 0, y, .bool false]) := by
  have hcx := cells_one hx
  have hcy := cells_one hy
  rw [zc39]
  unfold bld
  rw [fill_step (off := 0) (size := 1) rfl (by rw [hcx]; rfl) (by simp), hcx, fill_step (off := 2) (size := 1) rfl (by rw [hcy]; rfl) (by simp [splice]), hcy]
  rfl
theorem bld39z {k : Value → Prop} : bld [(0, 1), (1, 1), (2, 1), (3, 1)] (zc Try.prog 39) #[] k = k (.agg #[.slice none 0 0, .slice none 0 0, .int .i64 0, .bool false]) := by
  rw [zc39]; rfl
theorem burns_same (d : DK) : d.burns.1.sure = d.sure ∧ d.burns.1.l = d.l := by unfold DK.burns; split <;> simp
theorem ext4 {a b c d : Value} : (#[a, b, c, d] : Array Value).extract 0 4 = #[a, b, c, d] := rfl
theorem ref_burned {w w' : World} {sv lv : Value} {d : DK} {SS SL : List Nat} (hs : RowsAt w sv 1 (d.sure.map strV) SS) (hlg : RowsAt w lv 2 (d.l.map wroteV) SL) (hk : Kp [] w w') :
    RefAt w' (.agg (qc sv lv d.burns.1)) d.burns.1 (SS ++ SL) := by
  obtain ⟨b1, b2⟩ := burns_same d
  exact ⟨sv, lv, SS, SL, rfl, by rw [b1]; exact hs.keep hk (by simp), by rw [b2]; exact hlg.keep hk (by simp), rfl⟩
theorem ref_Write {w : World} {x : Value} {d : DK} {S : List Nat} (h : RefAt w x d S) (ok : d.Ok) (hl : d.l.length < 2 ^ 40) (at_ : Int) (s : List UInt8) {K : Value → World → Prop}
    (hK : ∀ w' x' S', RefAt w' x' (d.write at_ s).1 S' → Kp [] w w' → (∀ y ∈ S', y ∈ S ∨ w.heap.size ≤ y) → K (.tuple #[x', .int .i64 (d.write at_ s).2]) w') :
    callG Try.prog 20 #[x, .int .i64 at_, .string (str s)] w K := by
  refine ref03_Write_call ?_
  obtain ⟨sv, lv, SS, SL, rfl, hs, hlg, rfl⟩ := h
  simp only [ref03_Write, ref03_Write_s1]
  refine newG2 fun a b w1 ha hb hab hba hA hB la lb hk => ?_
  have hc : Value.cells (.agg (qc sv lv d)) = qc sv lv d := rfl
  rw [hc] at hA
  simp only [qc, zc39] at hA hB
  obtain ⟨sa, sc, hsv, hcs⟩ := hs.len
  have hsv1 := rows_one hs
  have hlv1 := rows_one hlg
  have hsl : ∀ K : Value → Prop, lenL sv K = K (.int .i64 d.now.length) := by intro K; rw [hsv]; simp [ok.len]
  have hkb : ∀ o, Kp [] w (setBlk w1 b o) := fun o => hk.setBlk (.inr hb) _
  have hbad : ¬ ((0 ≤ at_ ∧ at_ < d.now.length) ∧ s.length = 32) → K (.tuple #[.agg #[sv, lv, .int .i64 d.fuse, .bool d.off], .int .i64 1]) (setBlk w1 b (.cells #[sv, lv, .int .i64 d.fuse, .bool d.off] 39)) := by
    intro hb'
    have := hK (setBlk w1 b (.cells #[sv, lv, .int .i64 d.fuse, .bool d.off] 39)) (.agg (qc sv lv d)) (SS ++ SL)
    unfold DK.write at this
    rw [if_neg hb'] at this
    exact this ⟨sv, lv, SS, SL, rfl, hs.keep (hkb _) (by simp), hlg.keep (hkb _) (by simp), rfl⟩ (hkb _) (fun y hy => .inl hy)
  simp [-getElem?_pos, -Array.getElem?_eq_getElem, -List.length_flatten, List.getElem?_cons_zero, List.getElem?_cons_succ, hA, hB, heap_self, heap_ne, hab, hba, la, lb, -Array.all_eq_true, lvS, spl4, one4, one_i, one_b, hsv1, hlv1, hsl, ext4]
  refine ⟨fun h0 => hbad (by omega), fun h0 => ⟨fun h1 => hbad (by omega), fun h1 => ⟨fun h2 => hbad (by omega), fun h2 => ?_⟩⟩⟩
  have hgood : (0 ≤ at_ ∧ at_ < d.now.length) ∧ s.length = 32 := by omega
  unfold ref03_Write_s0
  unfold DK.write at hK
  rw [if_pos hgood] at hK
  simp [-getElem?_pos, -Array.getElem?_eq_getElem, -List.length_flatten, List.getElem?_cons_zero, List.getElem?_cons_succ, hA, ext4]
  refine ref_burns (sv := sv) (lv := lv) (d := d) hsv1 hlv1 ⟨ok.f0, ok.f1⟩ fun w2 hk2 => ?_
  obtain ⟨b1, b2⟩ := burns_same d
  have hA2 := hk2.get hA (by simp)
  have hB2 := hk2.get hB (by simp)
  have la2 := live_of hA2
  have lb2 := live_of hB2
  have hkw2 : Kp [] w w2 := hk.trans' hk2
  cases hon : d.burns.2 with
  | false =>
    simp only [hon, Bool.false_eq_true, if_false] at hK
    have hkb2 : ∀ o o', Kp [] w (setBlk (setBlk w2 a o) b o') := fun o o' => (hkw2.setBlk (.inr ha) _).setBlk (.inr hb) _
    have := hK _ (.agg (qc sv lv d.burns.1)) (SS ++ SL) (ref_burned hs hlg (hkb2 (.cells (qc sv lv d.burns.1) 39) (.cells (qc sv lv d.burns.1) 39))) (hkb2 _ _) (fun y hy => .inl hy)
    simp only [qc] at this
    simp [-getElem?_pos, -Array.getElem?_eq_getElem, -List.length_flatten, List.getElem?_cons_zero, List.getElem?_cons_succ, qc, hA2, hB2, heap_self, heap_ne, hab, hba, la2, lb2, -Array.all_eq_true, lvS, spl4, one4, one_i, one_b, hsv1, hlv1, ext4]
    exact ⟨one4p hsv1 hlv1 rfl rfl, this⟩
  | true =>
    simp only [hon, if_true] at hK
    simp [-getElem?_pos, -Array.getElem?_eq_getElem, -List.length_flatten, List.getElem?_cons_zero, List.getElem?_cons_succ, qc, hA2, hB2, heap_self, heap_ne, hab, hba, la2, lb2, -Array.all_eq_true, lvS, spl4, one4, one_i, one_b, hsv1, hlv1, ext4]
    obtain ⟨b1, b2⟩ := burns_same d
    obtain ⟨f', hf'⟩ : ∃ f', f' = d.burns.1.fuse := ⟨_, rfl⟩
    obtain ⟨o', ho'⟩ : ∃ o', o' = d.burns.1.off := ⟨_, rfl⟩
    rw [← hf', ← ho']
    obtain ⟨w3, hw3⟩ : ∃ w3, w3 = setBlk w2 a (.cells #[sv, lv, .int .i64 f', .bool o'] 39) := ⟨_, rfl⟩
    have hkw3 : Kp [] w w3 := by rw [hw3]; exact hkw2.setBlk (.inr ha) _
    have hA3 : w3.heap[a]? = some (.cells #[sv, lv, .int .i64 f', .bool o'] 39) := by rw [hw3]; exact heap_self la2
    have hB3 : w3.heap[b]? = some (.cells #[.slice none 0 0, .slice none 0 0, .int .i64 0, .bool false] 39) := by rw [hw3, heap_ne hab]; exact hB2
    rw [← hw3]
    have hl3 := (hlg.keep hkw3 (by simp)).rd
    have hz := zc97
    rw [hz]
    refine rows_app (k := 2) (z := [Value.int .i64 0, .string ⟨#[]⟩]) (rows := []) (G := d.l.map wroteV) (S := []) (.inl ⟨rfl, rfl, rfl⟩) (by omega) rfl (fun y hy => hl3.row hy) (wroteV_one _) (fun K' hK' => hl3.src K' hK') (by simp; omega) (by simp; omega) fun v4 w4 S4 h4 hk4 hS4 => ?_
    rw [← hz, bld97 rfl rfl, bsl_agg (n := 2) rfl]
    obtain ⟨w5, hw5⟩ : ∃ w5, w5 = w4.alloc (.cells #[.int .i64 at_, .string (str s)] 97) := ⟨_, rfl⟩
    have hk5 : Kp [] w4 w5 := by rw [hw5]; exact (Kp.refl [] w4).alloc _
    have hb5 : w5.heap[w4.heap.size]? = some (.cells #[.int .i64 at_, .string (str s)] 97) := by rw [hw5]; exact heap_new
    rw [← hw5, hz]
    have hat : ((at_.toNat : Nat) : Int) = at_ := by omega
    have hs5 : RdAt w5 (.slice (some ⟨w4.heap.size, 0, none⟩) 1 1) 2 [wroteV (at_.toNat, s)] [w4.heap.size] :=
      .inr ⟨_, 0, 1, _, _, _, rfl, rfl, hb5, by simp [wroteV], by simp, by simp [wroteV, hat], by simp⟩
    have hw0 := hk4.size
    refine rows_app (k := 2) (z := [Value.int .i64 0, .string ⟨#[]⟩]) (G := [wroteV (at_.toNat, s)]) (h4.keep hk5 (by simp)) (by omega) rfl (by simp [wroteV]) (by simp [wroteV, Q.one]) (fun K' hK' => hs5.src K' hK') (by simp; omega) (by simp; omega) fun v6 w6 S6 h6 hk6 hS6 => ?_
    have hn4 : ∀ y ∈ S4, w3.heap.size ≤ y := fun y hy => by
      rcases hS4 y hy with h | h
      · cases h
      · exact h
    have hs3 := hkw3.size
    have hk46 : Kp [] w3 w6 := (hk4.trans' hk5).trans hk6 fun y hy hlt => by have := hn4 y hy; omega
    have hA6 := hk46.get hA3 (by simp)
    have hB6 := hk46.get hB3 (by simp)
    have la6 := live_of hA6
    have lb6 := live_of hB6
    have hv6 := rows_one h6
    have hkw6 : Kp [] w w6 := hkw3.trans' hk46
    have hend : ∀ o o', Kp [] w (setBlk (setBlk w6 a o) b o') := fun o o' => (hkw6.setBlk (.inr ha) _).setBlk (.inr hb) _
    have ha3 := live_of hA3
    have hb3 := live_of hB3
    unfold Live at ha3 hb3
    have hne6 : ∀ y ∈ S6, w3.heap.size ≤ y := fun y hy => by
      rcases hS6 y hy with h | h
      · exact hn4 y h
      · have := hk5.size; omega
    simp [-getElem?_pos, -Array.getElem?_eq_getElem, -List.length_flatten, List.getElem?_cons_zero, List.getElem?_cons_succ, hA6, hB6, heap_self, heap_ne, hab, hba, la6, lb6, -Array.all_eq_true, lvS, spl4, one4, one_i, one_b, hsv1, hlv1, ext4, hv6]
    have hfin := hK (setBlk (setBlk w6 a (.cells #[sv, v6, .int .i64 f', .bool o'] 39)) b (.cells #[sv, v6, .int .i64 f', .bool o'] 39)) (.agg #[sv, v6, .int .i64 f', .bool o']) (SS ++ S6)
    refine ⟨one4p hsv1 hv6 rfl rfl, hfin ⟨sv, v6, SS, S6, by rw [hf', ho']; rfl, ?_, ?_, rfl⟩ (hend _ _) fun y hy => ?_⟩
    · show RowsAt _ sv 1 (List.map strV d.burns.1.sure) SS
      rw [b1]; exact hs.keep (hend _ _) (by simp)
    · show RowsAt _ v6 2 (List.map wroteV (d.l ++ [(at_.toNat, s)])) S6
      rw [List.map_append]
      have hk66 : Kp [a, b] w6 (setBlk (setBlk w6 a (.cells #[sv, v6, .int .i64 f', .bool o'] 39)) b (.cells #[sv, v6, .int .i64 f', .bool o'] 39)) :=
        ((Kp.refl _ w6).setBlk (.inl (by simp)) _).setBlk (.inl (by simp)) _
      exact h6.keep hk66 fun y hy => by have := hne6 y hy; simp; omega
    · rcases List.mem_append.1 hy with h | h
      · exact .inl (by simp [h])
      · exact .inr (by have := hne6 y h; omega)
end Go.Proofs

/- strings.Builder: WriteString, Len, String. -/
set_option linter.unusedVariables false
set_option linter.unusedSimpArgs false
namespace Go.Proofs
open Go Go.Q
theorem app_nothing {w : World} {z : Array Value} {K : Value → World → Prop} (hK : K (.slice none 0 0) w) : app 5 1 1 z (.slice none 0 0) (.string (str [])) w K := by
  unfold app
  simp [srcA]
  exact hK
theorem zc5l : zc Try.prog 5 = [Value.int .u8 0].toArray := by kernel_rfl
theorem WriteString_spec {w : World} {b : Nat} {l : List UInt8} {S : List Nat} (h : Bld w b l S) (s : List UInt8) (hl : l.length + s.length < 2 ^ 40) {K : Value → World → Prop}
    (hK : ∀ w' S', Bld w' b (l ++ s) S' → Kp S w w' → (∀ x ∈ S', x ∈ S ∨ w.heap.size ≤ x) → K (.tuple #[.int .i64 s.length, .nilIface]) w') : callG Try.prog 58 #[.pointer (some ⟨b, 0, none⟩), .string (str s)] w K := by
  refine strings_Builder_WriteString_call ?_
  simp only [strings_Builder_WriteString, strings_Builder_WriteString_s0]
  refine copy_spec h fun w1 h1 hk1 => ?_
  obtain ⟨p, v, SB, g1, g2, g3, g4, rfl, g5⟩ := h1
  have lb := live_of g1
  have hsz := hk1.size
  simp [-getElem?_pos, -Array.getElem?_eq_getElem, -List.length_flatten, List.getElem?_cons_zero, List.getElem?_cons_succ, g1]
  by_cases h0 : l = [] ∧ s = []
  · obtain ⟨rfl, rfl⟩ := h0
    have hv := g4 rfl
    subst hv
    refine app_nothing ?_
    simp [-getElem?_pos, -Array.getElem?_eq_getElem, -List.length_flatten, List.getElem?_cons_zero, List.getElem?_cons_succ, g1, lb]
    have hk : Kp [b] w1 (setBlk w1 b (.cells #[p, .slice none 0 0] 107)) := (Kp.refl _ w1).setBlk (.inl (by simp)) _
    refine hK _ (b :: SB) ⟨p, _, SB, heap_self lb, g2, g3.keep hk (fun x hx => by simp; intro hh; exact g5 (hh ▸ hx)), fun _ => rfl, rfl, g5⟩ (hk1.trans hk fun x hx _ => by simp at hx; simp [hx]) (fun x hx => .inl hx)
  · have hone : ((s.map byteV).flatten).all Q.one = true := by rw [byteV_flat]; have := one_u8c s; rw [List.all_toArray] at this; exact this
    have hsrc : ∀ K' : Nat → Array Value → Prop, K' (s.map byteV).length (s.map byteV).flatten.toArray → srcA 1 (.string (str s)) w1 K' := by
      intro K' hK'
      have he : u8s ((str s).extract 0 s.length) = (u8c s).toArray := by rw [str_extract, List.take_length, List.drop_zero, u8s_eq]; rfl
      rw [byteV_flat, List.length_map] at hK'
      simp only [srcA, str_size, he]
      exact hK'
    rw [zc5l]
    refine rowsT_app (k := 1) (z := [Value.int .u8 0]) (G := s.map byteV) g3 (by omega) rfl (by simp [byteV]) hone hsrc (by simp; omega) (by simp; omega) fun v2 w2 S2 h2 hk2 hS2 => ?_
    have gg := hk2.get g1 g5
    have lb2 := live_of gg
    have hv2 := rows_one h2.at_
    have hbS2 : b ∉ S2 := fun hm => by
      rcases hS2 b hm with h | h
      · exact g5 h
      · have : b < w1.heap.size := lb
        omega
    have hk : Kp [b] w2 (setBlk w2 b (.cells #[p, v2] 107)) := (Kp.refl _ w2).setBlk (.inl (by simp)) _
    simp [-getElem?_pos, -Array.getElem?_eq_getElem, -List.length_flatten, List.getElem?_cons_zero, List.getElem?_cons_succ, gg, lb2, hv2]
    refine hK _ (b :: S2) ⟨p, v2, S2, heap_self lb2, g2, ?_, ?_, rfl, hbS2⟩ ?_ ?_
    · rw [List.map_append]
      exact h2.keep hk (fun x hx => by simp; intro hh; exact hbS2 (hh ▸ hx))
    · intro hn
      exact absurd (by simpa using hn) h0
    · exact (hk1.trans hk2 fun x hx _ => by simp [hx]).trans hk fun x hx _ => by simp at hx; simp [hx]
    · intro x hx
      rcases List.mem_cons.1 hx with rfl | hx
      · exact .inl (by simp)
      · rcases hS2 x hx with h | h
        · exact .inl (by simp [h])
        · exact .inr (by omega)
theorem BufT.lenL {w : World} {v : Value} {l : List UInt8} {S : List Nat} (h : BufT w v l S) {K : Value → Prop} : lenL v K = K (.int .i64 l.length) := by
  rcases h with ⟨h1, h2, _⟩ | ⟨bl, cap, c, fr, h1, _⟩
  · rw [h1, h2]; rfl
  · rw [h1]; rfl
theorem Len_spec {w : World} {b : Nat} {l : List UInt8} {S : List Nat} (h : BldD w b l S) {K : Value → World → Prop} (hK : K (.int .i64 l.length) w) : callG Try.prog 61 #[.pointer (some ⟨b, 0, none⟩)] w K := by
  refine strings_Builder_Len_call ?_
  obtain ⟨p, v, SB, h1, h2, rfl, h5⟩ := h
  simp only [strings_Builder_Len, strings_Builder_Len_s0]
  simp [-getElem?_pos, -Array.getElem?_eq_getElem, -List.length_flatten, List.getElem?_cons_zero, List.getElem?_cons_succ, h1]
  rw [BufT.lenL h2]
  exact hK
theorem freeze_blk {w : World} {bl n : Nat} {c : Array Value} {T : TypeId} {fr : Nat × Nat} (h : w.heap[bl]? = some (.cells c T fr)) (hn : n ≠ 0) : ∃ fr', w.freeze ⟨bl, 0, none⟩ n = setBlk w bl (.cells c T fr') := by
  obtain ⟨lo, hi⟩ := fr
  refine ⟨if lo == hi then (0, 0 + n) else (min lo 0, max hi (0 + n)), ?_⟩
  unfold World.freeze
  rw [if_neg hn]
  unfold setBlk
  congr 1
  apply Array.ext_getElem?
  intro j
  rw [Array.getElem?_modify, Array.getElem?_setIfInBounds]
  by_cases hj : bl = j
  · subst hj
    rw [if_pos rfl, if_pos rfl, h]
    have := (Array.getElem?_eq_some_iff.1 h).1
    rw [if_pos this]
    rfl
  · rw [if_neg hj, if_neg hj]
theorem String_spec {w : World} {b : Nat} {l : List UInt8} {S : List Nat} (h : BldD w b l S) (hl : l.length < 2 ^ 62) {K : Value → World → Prop}
    (hK : ∀ w', BldD w' b l S → Kp S w w' → K (.string (str l)) w') : callG Try.prog 59 #[.pointer (some ⟨b, 0, none⟩)] w K := by
  refine strings_Builder_String_call ?_
  have h0 := h
  obtain ⟨p, v, SB, h1, h2, rfl, h5⟩ := h
  simp only [strings_Builder_String, strings_Builder_String_s0]
  simp [-getElem?_pos, -Array.getElem?_eq_getElem, -List.length_flatten, List.getElem?_cons_zero, List.getElem?_cons_succ, h1]
  rw [BufT.lenL h2]
  have hkd : Kp (b :: SB) w w.drew := (Kp.refl _ _).drew
  rcases h2 with ⟨rfl, rfl, rfl⟩ | ⟨bl, cap, c, fr, rfl, rfl, g3, g4, g5, g6, g7⟩
  · refine ⟨_, _, Go.Lib.run_unsafeSliceData_nil _ _ _ _ _, ?_⟩
    simp [-getElem?_pos, -Array.getElem?_eq_getElem, -List.length_flatten, List.getElem?_cons_zero, List.getElem?_cons_succ, h1]
    refine ⟨_, _, Go.Lib.run_unsafeString_none _ _ _ _ _, ?_⟩
    exact hK w.drew h0 hkd
  · have hpos : l.length ≠ 0 := by simpa using g4
    refine ⟨_, _, Go.Lib.run_unsafeSliceData_row _ _ _ _ _ _ (by omega), ?_⟩
    simp [-getElem?_pos, -Array.getElem?_eq_getElem, -List.length_flatten, List.getElem?_cons_zero, List.getElem?_cons_succ, h1]
    refine ⟨_, _, Go.Lib.run_unsafeString_row (e := 5) w.drew 121 3 9 Try.underlying121 Try.cellsOf5 bl c.size (by simp [World.shape?, g3]) l g4 g5 (by omega) ?_, ?_⟩
    · intro j x hx
      have hj : j < l.length := (List.getElem?_eq_some_iff.1 hx).1
      have : c.toList[j]? = (u8c l)[j]? := by rw [← g7, List.getElem?_take_of_lt hj]
      simp only [add_mk, World.cell?, heap_drew, g3, Nat.zero_add]
      rw [← Array.getElem?_toList, this]
      simp [u8c, hx]
    · obtain ⟨fr', hf⟩ := freeze_blk (w := w.drew) (bl := bl) (n := l.length) g3 hpos
      rw [hf]
      have hk : Kp [bl] w.drew (setBlk w.drew bl (.cells c 5 fr')) := (Kp.refl _ _).setBlk (.inl (by simp)) _
      have hne : ¬ b = bl := by simpa using h5
      refine hK _ ⟨p, _, [bl], by rw [heap_ne (fun h => hne h.symm)]; exact h1, .inr ⟨bl, cap, c, fr', rfl, rfl, heap_self (live_of g3), g4, g5, g6, g7⟩, rfl, h5⟩ (hkd.trans hk fun x hx _ => by simp at hx; simp [hx])
end Go.Proofs

set_option linter.unusedVariables false
set_option linter.unusedSimpArgs false
namespace Go.Proofs
open Go Go.Q
set_option maxRecDepth 100000
/-! quayside/wal.right -/
def wal_right_s0 (R : Value → World → Prop) (x0 : Value) (w : World) : Prop :=
  qG Try.prog (bq .geq 3 (.tmp 3) (.const (.int .i64 1)) x0 (.int .i64 1)) w fun t4 =>
  bV t4
  (qG Try.prog (bq .leq 3 (.tmp 6) (.const (.int .i64 2147483647)) x0 (.int .i64 2147483647)) w fun t7 =>
  R t7 w)
  (R (.bool false) w)

theorem wal_right_s0_eq (R : Value → World → Prop) : ∀ e w, lift Try.prog 9 (bodyOf Try.f49) (finK Try.prog Try.f49.results.toList R) e w = wal_right_s0 R (e 0) w := fun e w => by kernel_rfl

def wal_right (R : Value → World → Prop) (x0 : Value) (w : World) : Prop := wal_right_s0 R x0 w
theorem wal_right_call {R : Value → World → Prop} {x0 : Value} {w : World} (h : wal_right R x0 w) : callG Try.prog 49 #[x0] w R :=
  calls_lift_eq Try.mixed Try.func49 (args := [x0]) rfl rfl rfl rfl ((wal_right_s0_eq R) (envOf [x0]) w) (by kernel_rfl) h
/-! quayside/wal.Frame -/
def wal_Frame_s0 (R : Value → World → Prop) (x0 x1 : Value) (w : World) : Prop :=
  callG Try.prog 50 #[x0] w fun t20 w =>
  lenS x1 fun t22 =>
  callG Try.prog 50 #[t22] w fun t23 w =>
  slS t23 none (some (.int .i64 2)) fun t24 =>
  qG Try.prog (bq .add 9 (.tmp 20) (.tmp 24) t20 t24) w fun t25 =>
  callG Try.prog 52 #[t25] w fun t28 w =>
  callG Try.prog 51 #[t28, x1] w fun t30 w =>
  callG Try.prog 50 #[t30] w fun t31 w =>
  qG Try.prog (bq .add 9 (.tmp 26) (.tmp 31) t25 t31) w fun t32 =>
  qG Try.prog (bq .add 9 (.tmp 32) (.tmp 33) t32 x1) w fun t34 =>
  R (.tuple #[t34, (.int .i64 0)]) w

theorem wal_Frame_s0_eq (R : Value → World → Prop) : ∀ e w, lift Try.prog 35 (sub (bodyOf Try.f30) [1, 1]) (finK Try.prog Try.f30.results.toList R) e w = wal_Frame_s0 R (e 0) (e 1) w := fun e w => by kernel_rfl

def wal_Frame_s1 (R : Value → World → Prop) (x0 x1 : Value) (w : World) : Prop :=
  callG Try.prog 49 #[x0] w fun t8 w =>
  qG Try.prog (Op.unary .not t8) w fun t9 =>
  bV t9
  (R (.tuple #[(.string ⟨#[]⟩), (.int .i64 1)]) w)
  (qG Try.prog (bq .eql 9 (.tmp 11) (.const (.string ⟨#[]⟩)) x1 (.string ⟨#[]⟩)) w fun t12 =>
  bV t12
  (R (.tuple #[(.string ⟨#[]⟩), (.int .i64 1)]) w)
  (lenS x1 fun t16 =>
  qG Try.prog (bq .gtr 3 (.tmp 16) (.const (.int .i64 1024)) t16 (.int .i64 1024)) w fun t17 =>
  bV t17
  (R (.tuple #[(.string ⟨#[]⟩), (.int .i64 1)]) w)
  (wal_Frame_s0 R x0 x1 w)))

theorem wal_Frame_s1_eq (R : Value → World → Prop) : ∀ e w, lift Try.prog 35 (bodyOf Try.f30) (finK Try.prog Try.f30.results.toList R) e w = wal_Frame_s1 R (e 0) (e 1) w :=
  segs_eq (l := [(sub (bodyOf Try.f30) [0]), (sub (bodyOf Try.f30) [1, 0])]) (y := (sub (bodyOf Try.f30) [1, 1])) (Y := (fun e w => wal_Frame_s0 R (e 0) (e 1) w)) (wal_Frame_s0_eq R) (fun e w => by kernel_rfl)

def wal_Frame (R : Value → World → Prop) (x0 x1 : Value) (w : World) : Prop := wal_Frame_s1 R x0 x1 w
theorem wal_Frame_call {R : Value → World → Prop} {x0 x1 : Value} {w : World} (h : wal_Frame R x0 x1 w) : callG Try.prog 30 #[x0, x1] w R :=
  calls_lift_eq Try.mixed Try.func30 (args := [x0, x1]) rfl rfl rfl rfl ((wal_Frame_s1_eq R) (envOf [x0, x1]) w) (by kernel_rfl) h
/-! quayside/wal.next -/
def wal_next_s0 (R : Value → World → Prop) (x1 x6 : Value) (w : World) : Prop :=
  qG Try.prog (bq .add 3 (.const (.int .i64 10)) (.tmp 44) (.int .i64 10) x6) w fun t45 =>
  slS x1 (some (.int .i64 10)) (some t45) fun t46 =>
  slS x1 (some (.int .i64 6)) none fun t49 =>
  slS x1 none (some (.int .i64 6)) fun t52 =>
  callG Try.prog 69 #[t49] (World.drew w) fun t50 w =>
  callG Try.prog 52 #[t52] w fun t53 w =>
  callG Try.prog 51 #[t53, t46] w fun t55 w =>
  qG Try.prog (bq .eql 3 (.tmp 50) (.tmp 55) t50 t55) w fun t56 =>
  R (.tuple #[t46, t56]) w

theorem wal_next_s0_eq (R : Value → World → Prop) : ∀ e w, lift Try.prog 57 (sub (bodyOf Try.f55) [1, 1, 1, 1]) (finK Try.prog Try.f55.results.toList R) e w = wal_next_s0 R (e 1) (e 6) w := fun e w => by kernel_rfl

def wal_next_s1 (R : Value → World → Prop) (x1 : Value) (w : World) : Prop :=
  ixS x1 (.int .i64 4) fun t23 =>
  cvI .i64 t23 fun t24 =>
  ixS x1 (.int .i64 5) fun t26 =>
  cvI .i64 t26 fun t27 =>
  qG Try.prog (bq .shl 3 (.tmp 27) (.const (.int .u64 8)) t27 (.int .u64 8)) (World.drew w) fun t28 =>
  qG Try.prog (bq .or 3 (.tmp 24) (.tmp 28) t24 t28) (World.drew w) fun t29 =>
  qG Try.prog (bq .lss 3 (.tmp 30) (.const (.int .i64 1)) t29 (.int .i64 1)) (World.drew w) fun t31 =>
  bV t31
  (R (.tuple #[(.string ⟨#[]⟩), (.bool false)]) (World.drew w))
  (qG Try.prog (bq .gtr 3 (.tmp 33) (.const (.int .i64 1024)) t29 (.int .i64 1024)) (World.drew w) fun t34 =>
  bV t34
  (R (.tuple #[(.string ⟨#[]⟩), (.bool false)]) (World.drew w))
  (lenS x1 fun t39 =>
  qG Try.prog (bq .sub 3 (.tmp 39) (.const (.int .i64 10)) t39 (.int .i64 10)) (World.drew w) fun t40 =>
  qG Try.prog (bq .gtr 3 (.tmp 37) (.tmp 40) t29 t40) (World.drew w) fun t41 =>
  bV t41
  (R (.tuple #[(.string ⟨#[]⟩), (.bool false)]) (World.drew w))
  (wal_next_s0 R x1 t29 (World.drew w))))

theorem wal_next_s1_eq (R : Value → World → Prop) : ∀ e w, lift Try.prog 57 (sub (bodyOf Try.f55) [1, 1]) (finK Try.prog Try.f55.results.toList R) e w = wal_next_s1 R (e 1) w :=
  segs_eq (l := [(sub (bodyOf Try.f55) [1, 1, 0]), (sub (bodyOf Try.f55) [1, 1, 1, 0])]) (y := (sub (bodyOf Try.f55) [1, 1, 1, 1])) (Y := (fun e w => wal_next_s0 R (e 1) (e 6) w)) (wal_next_s0_eq R) (fun e w => by kernel_rfl)

def wal_next_s2 (R : Value → World → Prop) (x0 x1 : Value) (w : World) : Prop :=
  lenS x1 fun t9 =>
  qG Try.prog (bq .leq 3 (.tmp 9) (.const (.int .i64 10)) t9 (.int .i64 10)) w fun t10 =>
  bV t10
  (R (.tuple #[(.string ⟨#[]⟩), (.bool false)]) w)
  (callG Try.prog 49 #[x0] w fun t13 w =>
  qG Try.prog (Op.unary .not t13) w fun t14 =>
  bV t14
  (R (.tuple #[(.string ⟨#[]⟩), (.bool false)]) w)
  (callG Try.prog 69 #[x1] w fun t18 w =>
  qG Try.prog (bq .neq 3 (.tmp 18) (.tmp 19) t18 x0) w fun t20 =>
  bV t20
  (R (.tuple #[(.string ⟨#[]⟩), (.bool false)]) w)
  (wal_next_s1 R x1 w)))

theorem wal_next_s2_eq (R : Value → World → Prop) : ∀ e w, lift Try.prog 57 (bodyOf Try.f55) (finK Try.prog Try.f55.results.toList R) e w = wal_next_s2 R (e 0) (e 1) w :=
  segs_eq (l := [(sub (bodyOf Try.f55) [0]), (sub (bodyOf Try.f55) [1, 0])]) (y := (sub (bodyOf Try.f55) [1, 1])) (Y := (fun e w => wal_next_s1 R (e 1) w)) (wal_next_s1_eq R) (fun e w => by kernel_rfl)

def wal_next (R : Value → World → Prop) (x0 x1 : Value) (w : World) : Prop := wal_next_s2 R x0 x1 w
theorem wal_next_call {R : Value → World → Prop} {x0 x1 : Value} {w : World} (h : wal_next R x0 x1 w) : callG Try.prog 55 #[x0, x1] w R :=
  calls_lift_eq Try.mixed Try.func55 (args := [x0, x1]) rfl rfl rfl rfl ((wal_next_s2_eq R) (envOf [x0, x1]) w) (by kernel_rfl) h
/-! quayside/wal.Scan -/
def wal_Scan_b0 (R : Value → World → Prop) (N1 : List Value → World → Prop) (x0 x1 x6 x7 : Value) (w : World) : Prop :=
  slS x1 (some x7) none fun t14 =>
  callG Try.prog 55 #[x0, t14] w fun t15 w =>
  qG Try.prog (Instr.extract t15 0) w fun t16 =>
  qG Try.prog (Instr.extract t15 1) w fun t17 =>
  qG Try.prog (Op.unary .not t17) w fun t19 =>
  bV t19
  (R (.tuple #[x6, x7]) w)
  (bsl 9 1 1 (zc Try.prog 9) #[(0, t16)] w fun t24 w =>
  app 9 1 16 (zc Try.prog 9) x6 t24 w fun t25 w =>
  lenS t16 fun t28 =>
  qG Try.prog (bq .add 3 (.const (.int .i64 10)) (.tmp 28) (.int .i64 10) t28) w fun t29 =>
  qG Try.prog (bq .add 3 (.tmp 26) (.tmp 29) x7 t29) w fun t30 =>
  N1 [x0, x1, t25, t30] w)

theorem wal_Scan_b0_eq (R : Value → World → Prop) (N1 : List Value → World → Prop) : ∀ e w, lift Try.prog 31 (sub (bodyOf Try.f32) [1, 1, 1, 0, 0]) (seqK (fun e w => N1 [e 0, e 1, e 6, e 7] w) (blockK 0 (finK Try.prog Try.f32.results.toList R))) e w = wal_Scan_b0 R N1 (e 0) (e 1) (e 6) (e 7) w := fun e w => by kernel_rfl

def wal_Scan_L1F (R : Value → World → Prop) (N1 : List Value → World → Prop) (xs : List Value) (w : World) : Prop :=
  match xs with
  | [x0, x1, x6, x7] => wal_Scan_b0 R N1 x0 x1 x6 x7 w
  | _ => False

def wal_Scan_L1 (R : Value → World → Prop) (x0 x1 x6 x7 : Value) (w : World) : Prop :=
  ∃ m, loopV (wal_Scan_L1F R) m [x0, x1, x6, x7] w

theorem wal_Scan_L1_eq (R : Value → World → Prop) : ∀ e w, lift Try.prog 31 (sub (bodyOf Try.f32) [1, 1, 1, 0]) (blockK 0 (finK Try.prog Try.f32.results.toList R)) e w = wal_Scan_L1 R (e 0) (e 1) (e 6) (e 7) w := loop_seg (F := wal_Scan_L1F R) (sel := fun e => [e 0, e 1, e 6, e 7]) fun N1 => (wal_Scan_b0_eq R N1)

def wal_Scan_s2 (R : Value → World → Prop) (x0 x1 : Value) (w : World) : Prop :=
  wal_Scan_L1 R x0 x1 (.slice none 0 0) (.int .i64 0) w

theorem wal_Scan_s2_eq (R : Value → World → Prop) : ∀ e w, lift Try.prog 31 (bodyOf Try.f32) (finK Try.prog Try.f32.results.toList R) e w = wal_Scan_s2 R (e 0) (e 1) w :=
  segs_eq (l := [(sub (bodyOf Try.f32) [0]), (sub (bodyOf Try.f32) [1, 0]), (sub (bodyOf Try.f32) [1, 1, 0])]) (y := (sub (bodyOf Try.f32) [1, 1, 1])) (Y := (fun e w => wal_Scan_L1 R (e 0) (e 1) (e 6) (e 7) w)) (wal_Scan_L1_eq R) (fun e w => by kernel_rfl)

def wal_Scan (R : Value → World → Prop) (x0 x1 : Value) (w : World) : Prop := wal_Scan_s2 R x0 x1 w
theorem wal_Scan_call {R : Value → World → Prop} {x0 x1 : Value} {w : World} (h : wal_Scan R x0 x1 w) : callG Try.prog 32 #[x0, x1] w R :=
  calls_lift_eq Try.mixed Try.func32 (args := [x0, x1]) rfl rfl rfl rfl ((wal_Scan_s2_eq R) (envOf [x0, x1]) w) (by kernel_rfl) h
/-! quayside/quaysideref04.Frame -/
def ref04_Frame_s0 (R : Value → World → Prop) (x0 x1 : Value) (w : World) : Prop :=
  callG Try.prog 53 #[x0] w fun t23 w =>
  lenS x1 fun t25 =>
  callG Try.prog 53 #[t25] w fun t26 w =>
  slS t26 none (some (.int .i64 2)) fun t27 =>
  qG Try.prog (bq .add 9 (.tmp 23) (.tmp 27) t23 t27) w fun t28 =>
  qG Try.prog (bq .add 9 (.tmp 30) (.tmp 31) t28 x1) w fun t32 =>
  callG Try.prog 54 #[t32] w fun t33 w =>
  callG Try.prog 53 #[t33] w fun t34 w =>
  qG Try.prog (bq .add 9 (.tmp 29) (.tmp 34) t28 t34) w fun t35 =>
  qG Try.prog (bq .add 9 (.tmp 35) (.tmp 36) t35 x1) w fun t37 =>
  R (.tuple #[t37, (.int .i64 0)]) w

theorem ref04_Frame_s0_eq (R : Value → World → Prop) : ∀ e w, lift Try.prog 38 (sub (bodyOf Try.f31) [1, 1]) (finK Try.prog Try.f31.results.toList R) e w = ref04_Frame_s0 R (e 0) (e 1) w := fun e w => by kernel_rfl

def ref04_Frame_s1 (R : Value → World → Prop) (x0 x1 : Value) (w : World) : Prop :=
  qG Try.prog (bq .lss 3 (.tmp 7) (.const (.int .i64 1)) x0 (.int .i64 1)) w fun t8 =>
  bV t8
  (R (.tuple #[(.string ⟨#[]⟩), (.int .i64 1)]) w)
  (qG Try.prog (bq .gtr 3 (.tmp 10) (.const (.int .i64 2147483647)) x0 (.int .i64 2147483647)) w fun t11 =>
  bV t11
  (R (.tuple #[(.string ⟨#[]⟩), (.int .i64 1)]) w)
  (qG Try.prog (bq .eql 9 (.tmp 14) (.const (.string ⟨#[]⟩)) x1 (.string ⟨#[]⟩)) w fun t15 =>
  bV t15
  (R (.tuple #[(.string ⟨#[]⟩), (.int .i64 1)]) w)
  (lenS x1 fun t19 =>
  qG Try.prog (bq .gtr 3 (.tmp 19) (.const (.int .i64 1024)) t19 (.int .i64 1024)) w fun t20 =>
  bV t20
  (R (.tuple #[(.string ⟨#[]⟩), (.int .i64 1)]) w)
  (ref04_Frame_s0 R x0 x1 w))))

theorem ref04_Frame_s1_eq (R : Value → World → Prop) : ∀ e w, lift Try.prog 38 (bodyOf Try.f31) (finK Try.prog Try.f31.results.toList R) e w = ref04_Frame_s1 R (e 0) (e 1) w :=
  segs_eq (l := [(sub (bodyOf Try.f31) [0]), (sub (bodyOf Try.f31) [1, 0])]) (y := (sub (bodyOf Try.f31) [1, 1])) (Y := (fun e w => ref04_Frame_s0 R (e 0) (e 1) w)) (ref04_Frame_s0_eq R) (fun e w => by kernel_rfl)

def ref04_Frame (R : Value → World → Prop) (x0 x1 : Value) (w : World) : Prop := ref04_Frame_s1 R x0 x1 w
theorem ref04_Frame_call {R : Value → World → Prop} {x0 x1 : Value} {w : World} (h : ref04_Frame R x0 x1 w) : callG Try.prog 31 #[x0, x1] w R :=
  calls_lift_eq Try.mixed Try.func31 (args := [x0, x1]) rfl rfl rfl rfl ((ref04_Frame_s1_eq R) (envOf [x0, x1]) w) (by kernel_rfl) h
/-! quayside/quaysideref04.Scan -/
def ref04_Scan_s0 (R : Value → World → Prop) (x6 x7 : Value) (w : World) : Prop :=
  R (.tuple #[x6, x7]) w

theorem ref04_Scan_s0_eq (R : Value → World → Prop) : ∀ e w, lift Try.prog 73 (sub (bodyOf Try.f33) [1, 1, 1, 1]) (finK Try.prog Try.f33.results.toList R) e w = ref04_Scan_s0 R (e 6) (e 7) w := fun e w => by kernel_rfl

def ref04_Scan_s1 (R : Value → World → Prop) (N1 : List Value → World → Prop) (x0 x1 x6 x7 x8 x9 : Value) (w : World) : Prop :=
  qG Try.prog (bq .add 3 (.const (.int .i64 10)) (.tmp 62) (.int .i64 10) x9) w fun t63 =>
  slS x8 (some (.int .i64 10)) (some t63) fun t64 =>
  bsl 9 1 1 (zc Try.prog 9) #[(0, t64)] w fun t65 w =>
  app 9 1 16 (zc Try.prog 9) x6 t65 w fun t66 w =>
  qG Try.prog (bq .add 3 (.tmp 67) (.const (.int .i64 10)) x7 (.int .i64 10)) w fun t68 =>
  qG Try.prog (bq .add 3 (.tmp 68) (.tmp 69) t68 x9) w fun t70 =>
  N1 [x0, x1, t66, t70] w

theorem ref04_Scan_s1_eq (R : Value → World → Prop) (N1 : List Value → World → Prop) : ∀ e w, lift Try.prog 73 (sub (bodyOf Try.f33) [1, 1, 1, 0, 0, 0, 1, 0, 1, 1, 1, 1, 1]) (blockK 1 (seqK (fun e w => N1 [e 0, e 1, e 6, e 7] w) (blockK 0 (seqK (fun e w => ref04_Scan_s0 R (e 6) (e 7) w) (finK Try.prog Try.f33.results.toList R))))) e w = ref04_Scan_s1 R N1 (e 0) (e 1) (e 6) (e 7) (e 8) (e 9) w := fun e w => by kernel_rfl

def ref04_Scan_s2 (R : Value → World → Prop) (N1 : List Value → World → Prop) (x0 x1 x6 x7 x8 x9 : Value) (w : World) : Prop :=
  qG Try.prog (bq .add 3 (.const (.int .i64 10)) (.tmp 44) (.int .i64 10) x9) w fun t45 =>
  slS x8 (some (.int .i64 10)) (some t45) fun t46 =>
  callG Try.prog 31 #[x0, t46] w fun t47 w =>
  qG Try.prog (Instr.extract t47 0) w fun t48 =>
  qG Try.prog (Instr.extract t47 1) w fun t49 =>
  qG Try.prog (bq .neq 24 (.tmp 50) (.const (.int .i64 0)) t49 (.int .i64 0)) w fun t51 =>
  bV t51
  (ref04_Scan_s0 R x6 x7 w)
  (qG Try.prog (bq .add 3 (.const (.int .i64 10)) (.tmp 55) (.int .i64 10) x9) w fun t56 =>
  slS x8 none (some t56) fun t57 =>
  qG Try.prog (bq .neq 9 (.tmp 53) (.tmp 57) t48 t57) w fun t58 =>
  bV t58
  (ref04_Scan_s0 R x6 x7 w)
  (ref04_Scan_s1 R N1 x0 x1 x6 x7 x8 x9 w))

theorem ref04_Scan_s2_eq (R : Value → World → Prop) (N1 : List Value → World → Prop) : ∀ e w, lift Try.prog 73 (sub (bodyOf Try.f33) [1, 1, 1, 0, 0, 0, 1, 0, 1, 1, 1]) (blockK 1 (seqK (fun e w => N1 [e 0, e 1, e 6, e 7] w) (blockK 0 (seqK (fun e w => ref04_Scan_s0 R (e 6) (e 7) w) (finK Try.prog Try.f33.results.toList R))))) e w = ref04_Scan_s2 R N1 (e 0) (e 1) (e 6) (e 7) (e 8) (e 9) w :=
  segs_eq (l := [(sub (bodyOf Try.f33) [1, 1, 1, 0, 0, 0, 1, 0, 1, 1, 1, 0]), (sub (bodyOf Try.f33) [1, 1, 1, 0, 0, 0, 1, 0, 1, 1, 1, 1, 0])]) (y := (sub (bodyOf Try.f33) [1, 1, 1, 0, 0, 0, 1, 0, 1, 1, 1, 1, 1])) (Y := (fun e w => ref04_Scan_s1 R N1 (e 0) (e 1) (e 6) (e 7) (e 8) (e 9) w)) (ref04_Scan_s1_eq R N1) (fun e w => by kernel_rfl)

def ref04_Scan_s3 (R : Value → World → Prop) (N1 : List Value → World → Prop) (x0 x1 x6 x7 : Value) (w : World) : Prop :=
  slS x1 (some x7) none fun t19 =>
  ixS t19 (.int .i64 4) fun t21 =>
  cvI .i64 t21 fun t22 =>
  ixS t19 (.int .i64 5) fun t24 =>
  cvI .i64 t24 fun t25 =>
  qG Try.prog (bq .shl 3 (.tmp 25) (.const (.int .u64 8)) t25 (.int .u64 8)) (World.drew w) fun t26 =>
  qG Try.prog (bq .or 3 (.tmp 22) (.tmp 26) t22 t26) (World.drew w) fun t27 =>
  qG Try.prog (bq .eql 3 (.tmp 28) (.const (.int .i64 0)) t27 (.int .i64 0)) (World.drew w) fun t29 =>
  bV t29
  (ref04_Scan_s0 R x6 x7 (World.drew w))
  (qG Try.prog (bq .gtr 3 (.tmp 31) (.const (.int .i64 1024)) t27 (.int .i64 1024)) (World.drew w) fun t32 =>
  bV t32
  (ref04_Scan_s0 R x6 x7 (World.drew w))
  (lenS t19 fun t36 =>
  qG Try.prog (bq .sub 3 (.tmp 36) (.const (.int .i64 10)) t36 (.int .i64 10)) (World.drew w) fun t37 =>
  qG Try.prog (bq .lss 3 (.tmp 37) (.tmp 38) t37 t27) (World.drew w) fun t39 =>
  bV t39
  (ref04_Scan_s0 R x6 x7 (World.drew w))
  (ref04_Scan_s2 R N1 x0 x1 x6 x7 t19 t27 (World.drew w))))

theorem ref04_Scan_s3_eq (R : Value → World → Prop) (N1 : List Value → World → Prop) : ∀ e w, lift Try.prog 73 (sub (bodyOf Try.f33) [1, 1, 1, 0, 0, 0, 1, 0]) (blockK 1 (seqK (fun e w => N1 [e 0, e 1, e 6, e 7] w) (blockK 0 (seqK (fun e w => ref04_Scan_s0 R (e 6) (e 7) w) (finK Try.prog Try.f33.results.toList R))))) e w = ref04_Scan_s3 R N1 (e 0) (e 1) (e 6) (e 7) w :=
  segs_eq (l := [(sub (bodyOf Try.f33) [1, 1, 1, 0, 0, 0, 1, 0, 0]), (sub (bodyOf Try.f33) [1, 1, 1, 0, 0, 0, 1, 0, 1, 0]), (sub (bodyOf Try.f33) [1, 1, 1, 0, 0, 0, 1, 0, 1, 1, 0])]) (y := (sub (bodyOf Try.f33) [1, 1, 1, 0, 0, 0, 1, 0, 1, 1, 1])) (Y := (fun e w => ref04_Scan_s2 R N1 (e 0) (e 1) (e 6) (e 7) (e 8) (e 9) w)) (ref04_Scan_s2_eq R N1) (fun e w => by kernel_rfl)

def ref04_Scan_s4 (R : Value → World → Prop) (N1 : List Value → World → Prop) (x0 x1 x6 x7 : Value) (w : World) : Prop :=
  lenS x1 fun t13 =>
  qG Try.prog (bq .sub 3 (.tmp 13) (.tmp 14) t13 x7) w fun t15 =>
  qG Try.prog (bq .gtr 3 (.tmp 15) (.const (.int .i64 10)) t15 (.int .i64 10)) w fun t16 =>
  bV t16
  (ref04_Scan_s3 R N1 x0 x1 x6 x7 w)
  (ref04_Scan_s0 R x6 x7 w)

theorem ref04_Scan_s4_eq (R : Value → World → Prop) (N1 : List Value → World → Prop) : ∀ e w, lift Try.prog 73 (sub (bodyOf Try.f33) [1, 1, 1, 0, 0, 0]) (seqK (fun e w => N1 [e 0, e 1, e 6, e 7] w) (blockK 0 (seqK (fun e w => ref04_Scan_s0 R (e 6) (e 7) w) (finK Try.prog Try.f33.results.toList R)))) e w = ref04_Scan_s4 R N1 (e 0) (e 1) (e 6) (e 7) w :=
  segs_eq (l := [(sub (bodyOf Try.f33) [1, 1, 1, 0, 0, 0, 0])]) (y := (sub (bodyOf Try.f33) [1, 1, 1, 0, 0, 0, 1])) (Y := (fun e w => ref04_Scan_s3 R N1 (e 0) (e 1) (e 6) (e 7) w)) (ref04_Scan_s3_eq R N1) (fun e w => by kernel_rfl)

def ref04_Scan_L5F (R : Value → World → Prop) (N1 : List Value → World → Prop) (xs : List Value) (w : World) : Prop :=
  match xs with
  | [x0, x1, x6, x7] => ref04_Scan_s4 R N1 x0 x1 x6 x7 w
  | _ => False

def ref04_Scan_L5 (R : Value → World → Prop) (x0 x1 x6 x7 : Value) (w : World) : Prop :=
  ∃ m, loopV (ref04_Scan_L5F R) m [x0, x1, x6, x7] w

theorem ref04_Scan_L5_eq (R : Value → World → Prop) : ∀ e w, lift Try.prog 73 (sub (bodyOf Try.f33) [1, 1, 1, 0, 0]) (blockK 0 (seqK (fun e w => ref04_Scan_s0 R (e 6) (e 7) w) (finK Try.prog Try.f33.results.toList R))) e w = ref04_Scan_L5 R (e 0) (e 1) (e 6) (e 7) w := loop_seg (F := ref04_Scan_L5F R) (sel := fun e => [e 0, e 1, e 6, e 7]) fun N1 => (ref04_Scan_s4_eq R N1)

def ref04_Scan_s6 (R : Value → World → Prop) (x0 x1 : Value) (w : World) : Prop :=
  ref04_Scan_L5 R x0 x1 (.slice none 0 0) (.int .i64 0) w

theorem ref04_Scan_s6_eq (R : Value → World → Prop) : ∀ e w, lift Try.prog 73 (bodyOf Try.f33) (finK Try.prog Try.f33.results.toList R) e w = ref04_Scan_s6 R (e 0) (e 1) w :=
  segs_eq (l := [(sub (bodyOf Try.f33) [0]), (sub (bodyOf Try.f33) [1, 0]), (sub (bodyOf Try.f33) [1, 1, 0])]) (y := (sub (bodyOf Try.f33) [1, 1, 1])) (Y := (fun e w => ref04_Scan_L5 R (e 0) (e 1) (e 6) (e 7) w)) (seq_seg (x := (sub (bodyOf Try.f33) [1, 1, 1, 0])) (y := (sub (bodyOf Try.f33) [1, 1, 1, 1])) (ref04_Scan_s0_eq R) (ref04_Scan_L5_eq R)) (fun e w => by kernel_rfl)

def ref04_Scan (R : Value → World → Prop) (x0 x1 : Value) (w : World) : Prop := ref04_Scan_s6 R x0 x1 w
theorem ref04_Scan_call {R : Value → World → Prop} {x0 x1 : Value} {w : World} (h : ref04_Scan R x0 x1 w) : callG Try.prog 33 #[x0, x1] w R :=
  calls_lift_eq Try.mixed Try.func33 (args := [x0, x1]) rfl rfl rfl rfl ((ref04_Scan_s6_eq R) (envOf [x0, x1]) w) (by kernel_rfl) h
end Go.Proofs

/- Layer 2: the document's sums. -/
set_option linter.unusedVariables false
set_option linter.unusedSimpArgs false
namespace Go.Proofs
open Go Go.Q
theorem refMore_spec {w : World} (sum : Int) (s : List UInt8) (hs : s.length < 2 ^ 62) {K : Value → World → Prop} (hK : K (.int .i64 (crcMore sum s)) w) : callG Try.prog 68 #[.int .i64 sum, .string (str s)] w K := by
  refine ref02_More_call ?_
  simp only [ref02_More, ref02_More_s8]
  rw [and_of 32 (by omega) (by decide)]
  obtain ⟨c0, hc0⟩ : ∃ c0, c0 = (sum % 4294967296).toNat := ⟨_, rfl⟩
  have hlt0 : c0 < 2 ^ 32 := by omega
  have hw : sum % 2 ^ 32 = (c0 : Int) := by omega
  rw [hw, show (4294967295 : Int) = ((4294967295 : Nat) : Int) from rfl, xor64_of (by omega) (by omega), Nat.xor_comm]
  obtain ⟨c, hc⟩ : ∃ c, c = 4294967295 ^^^ c0 := ⟨_, rfl⟩
  have hlt : c < 2 ^ 32 := by rw [hc]; exact Nat.xor_lt_two_pow (by omega) hlt0
  have hcm : crcMore sum s = 4294967295 ^^^ crcRun c s := by unfold crcMore; rw [hc, hc0]
  rw [← hc]
  rw [hcm] at hK
  unfold ref02_More_s7 ref02_More_L6
  refine loop_inv (fun m xs w' => ∃ i, i ≤ s.length ∧ m = s.length - i ∧ xs = [.string (str s), .int .i64 (crcRun c (s.take i)), .int .i64 (i : Nat)] ∧ w' = w)
    ?_ (m := s.length) ⟨0, by omega, rfl, rfl, rfl⟩
  rintro m N xs w' ⟨i, hi, rfl, rfl, rfl⟩ hN
  simp only [ref02_More_L6F, ref02_More_s5, lenS_s, str_size, bq_lss, bV_b]
  have hri := crcRun_lt (s := s.take i) hlt
  refine ⟨fun h => ?_, fun h => ?_⟩
  · have hi : i < s.length := by simpa using h
    have hN' := hN (s.length - (i + 1)) _ w' (by omega) ⟨i + 1, by omega, rfl, rfl, rfl⟩
    have hiw : IntKind.i64.wrap ((i : Int) + 1) = ((i + 1 : Nat) : Int) := by rw [w64 (by omega) (by omega)]; simp
    rw [crcRun_take hi] at hN'
    obtain ⟨r, hr⟩ : ∃ r, r = crcRun c (s.take i) := ⟨_, rfl⟩
    rw [← hr] at hri hN' ⊢
    unfold ref02_More_s4
    rw [ixS_str hi]
    have hb := s[i].toNat_lt
    simp only [cvI_i, wrap_nat64 (show s[i].toNat < 2 ^ 63 by omega)]
    rw [xor64_of (by omega) (by omega)]
    unfold ref02_More_L3
    have hx : r ^^^ s[i].toNat < 2 ^ 32 := Nat.xor_lt_two_pow hri (by omega)
    obtain ⟨x, hxe⟩ : ∃ x, x = r ^^^ s[i].toNat := ⟨_, rfl⟩
    have hby : crcByte r s[i] = crcBits 8 x := by rw [hxe]; rfl
    rw [hby] at hN'
    rw [← hxe] at hx ⊢
    refine loop_inv (fun m xs w'' => ∃ j, j ≤ 8 ∧ m = 8 - j ∧ xs = [.string (str s), .int .i64 (crcBits j x), .int .i64 (i : Nat), .int .i64 (j : Nat)] ∧ w'' = w')
      ?_ (m := 8) ⟨0, by omega, rfl, rfl, rfl⟩
    rintro m N2 xs w'' ⟨j, hj, rfl, rfl, rfl⟩ hN2
    simp only [ref02_More_L3F, ref02_More_b2, bq_lss, bV_b]
    have hbl := crcBits_lt hx j
    refine ⟨fun h => ?_, fun h => ?_⟩
    · have hj : j < 8 := by simp at h; omega
      have hN2' := hN2 (8 - (j + 1)) _ w'' (by omega) ⟨j + 1, by omega, rfl, rfl, rfl⟩
      have hjw : IntKind.i64.wrap ((j : Int) + 1) = ((j + 1 : Nat) : Int) := by rw [w64 (by omega) (by omega)]; simp
      have hcj : crcBits (j + 1) x = crcBit (crcBits j x) := rfl
      rw [hcj] at hN2'
      obtain ⟨y, hy⟩ : ∃ y, y = crcBits j x := ⟨_, rfl⟩
      rw [← hy] at hbl hN2' ⊢
      have h1 : ((y : Int) / 2 ^ (1 : Int).toNat) = ((y / 2 : Nat) : Int) := by simp
      simp only [and1, bq_eql, bV_b]
      unfold crcBit at hN2'
      refine ⟨fun hb => ?_, fun hb => ?_⟩
      · have hb : y % 2 = 1 := by simp at hb; omega
        rw [if_pos hb] at hN2'
        rw [shr_of (by omega) (by decide), h1, show ((3988292384 : Int)) = ((3988292384 : Nat) : Int) from rfl, xor64_of (by omega) (by omega)]
        simp only [bq_add, hjw]
        exact hN2'
      · have hb : ¬ y % 2 = 1 := by simp at hb; omega
        rw [if_neg hb] at hN2'
        rw [shr_of (by omega) (by decide), h1]
        simp only [bq_add, hjw]
        exact hN2'
    · have hje : j = 8 := by simp at h; omega
      subst hje
      unfold ref02_More_s1
      simp only [bq_add, hiw]
      exact hN'
  · have hie : i = s.length := by simp at h; omega
    subst hie
    rw [List.take_length] at hri ⊢
    unfold ref02_More_s0
    rw [show (4294967295 : Int) = ((4294967295 : Nat) : Int) from rfl, xor64_of (by omega) (by omega), Nat.xor_comm]
    exact hK
theorem refSum_spec {w : World} (s : List UInt8) (hs : s.length < 2 ^ 62) {K : Value → World → Prop} (hK : K (.int .i64 (crcMore 0 s)) w) : callG Try.prog 54 #[.string (str s)] w K := by
  refine ref02_Sum_call ?_
  simp only [ref02_Sum, ref02_Sum_s0]
  exact refMore_spec 0 s hs hK
theorem bsl_four {e : Nat} {z : Array Value} {v0 v1 v2 v3 : Value} (h0 : one v0 = true) (h1 : one v1 = true) (h2 : one v2 = true) (h3 : one v3 = true) {w : World} {k : Value → World → Prop} :
    bsl e 1 4 z #[(0, v0), (1, v1), (2, v2), (3, v3)] w k = k (.slice (some ⟨w.heap.size, 0, none⟩) 4 4) (w.alloc (.cells #[v0, v1, v2, v3] e)) := by
  have g0 := cells_one h0
  have g1 := cells_one h1
  have g2 := cells_one h2
  have g3 := cells_one h3
  obtain ⟨r, hr⟩ : ∃ r, r = rep z (4 * 1) := ⟨_, rfl⟩
  have hs : r.size = 4 := by rw [hr, rep_size]
  obtain ⟨l⟩ := r
  obtain ⟨a, b, c, d, rfl⟩ : ∃ a b c d, l = [a, b, c, d] := by
    match l, hs with
    | [a, b, c, d], _ => exact ⟨a, b, c, d, rfl⟩
  unfold bsl
  show (match Instr.fill (fun i => some (i * 1, 1)) (rep z (4 * 1)) [(0, v0), (1, v1), (2, v2), (3, v3)] with | some cs => k (Value.slice (some ⟨w.heap.size, 0, none⟩) 4 4) (w.alloc (Obj.cells cs e)) | none => False) = _
  rw [← hr]
  rw [fill_step (off := 0) (size := 1) rfl (by rw [g0]; rfl) (by simp), g0]
  rw [fill_step (off := 1) (size := 1) rfl (by rw [g1]; rfl) (by simp [splice]), g1]
  rw [fill_step (off := 2) (size := 1) rfl (by rw [g2]; rfl) (by simp [splice]), g2]
  rw [fill_step (off := 3) (size := 1) rfl (by rw [g3]; rfl) (by simp [splice]), g3]
  rfl
theorem putB_and (x : Int) (k : Nat) : IntKind.u8.wrap (x / 2 ^ (8 * k) % 2 ^ 8) = ((putB x k).toNat : Int) := by
  rw [← putB_wrap]
  simp [IntKind.wrap, IntKind.bits, IntKind.signed]
theorem refPut_spec {w : World} (x : Int) {K : Value → World → Prop} (hK : ∀ w', Kp [] w w' → K (.string (str (put4 x))) w') : callG Try.prog 53 #[.int .i64 x] w K := by
  refine ref02_Put_call ?_
  simp only [ref02_Put, ref02_Put_s0]
  have p0 := putB_and x 0
  have p1 := putB_and x 1
  have p2 := putB_and x 2
  have p3 := putB_and x 3
  have e0 : x / 2 ^ (8 * 0) = x := by simp
  rw [e0] at p0
  rw [and_of 8 (by omega) (by decide), cvI_i, shr_of (by omega) (by decide), and_of 8 (by omega) (by decide), cvI_i, shr_of (by omega) (by decide), and_of 8 (by omega) (by decide), cvI_i, shr_of (by omega) (by decide), and_of 8 (by omega) (by decide), cvI_i]
  have t1 : (8 : Int).toNat = 8 * 1 := rfl
  have t2 : (16 : Int).toNat = 8 * 2 := rfl
  have t3 : (24 : Int).toNat = 8 * 3 := rfl
  rw [t1, t2, t3, p0, p1, p2, p3]
  rw [bsl_four rfl rfl rfl rfl]
  have hA := @heap_new w (.cells #[.int .u8 (putB x 0).toNat, .int .u8 (putB x 1).toNat, .int .u8 (putB x 2).toNat, .int .u8 (putB x 3).toNat] 5)
  have hA' : (w.alloc (.cells #[.int .u8 (putB x 0).toNat, .int .u8 (putB x 1).toNat, .int .u8 (putB x 2).toNat, .int .u8 (putB x 3).toNat] 5)).heap[w.heap.size]? = some (.cells (u8c (put4 x)).toArray 5) := hA
  rw [cvBS_str (n := 4) hA' rfl]
  exact hK _ ((Kp.refl _ _).alloc _)
end Go.Proofs

/- Layer 4: a record's bytes, and the records of bytes; the document's too. -/
set_option linter.unusedVariables false
set_option linter.unusedSimpArgs false
namespace Go.Proofs
open Go Go.Q
def turnOk (t : Int) : Bool := decide (1 ≤ t ∧ t ≤ 2147483647)
def headOf (t : Int) (s : List UInt8) : List UInt8 := put4 t ++ (put4 s.length).take 2
def frameB (t : Int) (s : List UInt8) : List UInt8 := headOf t s ++ put4 (crcMore 0 (headOf t s ++ s)) ++ s
def frame (t : Int) (s : List UInt8) : List UInt8 × Int := if turnOk t = true ∧ s ≠ [] ∧ s.length ≤ 1024 then (frameB t s, 0) else ([], 1)
theorem put4_len (x : Int) : (put4 x).length = 4 := rfl
theorem headOf_len (t : Int) (s : List UInt8) : (headOf t s).length = 6 := by simp [headOf, put4_len]
theorem frameB_len (t : Int) (s : List UInt8) : (frameB t s).length = 10 + s.length := by simp [frameB, headOf_len, put4_len]; omega
/-- a sum of what is begun: the sum of the whole -/
theorem crcMore_more (a b : List UInt8) : crcMore (crcMore 0 a) b = crcMore 0 (a ++ b) := by
  have hlt := crcMore_lt 0 a
  have h1 : ((crcMore 0 a : Nat) : Int) % 4294967296 = (crcMore 0 a : Nat) := Int.emod_eq_of_lt (by omega) (by omega)
  unfold crcMore at h1 ⊢
  rw [h1, Int.toNat_natCast, ← Nat.xor_assoc, Nat.xor_self, Nat.zero_xor]
  unfold crcRun
  rw [List.foldl_append]
theorem right_spec {w : World} (t : Int) {K : Value → World → Prop} (hK : K (.bool (turnOk t)) w) : callG Try.prog 49 #[.int .i64 t] w K := by
  refine wal_right_call ?_
  simp only [wal_right, wal_right_s0, bq_geq, bq_leq, bV_b]
  unfold turnOk at hK
  refine ⟨fun h => ?_, fun h => ?_⟩
  · have : 1 ≤ t := by simpa using h
    simpa [this] using hK
  · have : ¬ 1 ≤ t := by simpa using h
    simpa [this] using hK
theorem put2 (t : List UInt8) : (put4 t.length).take 2 = [putB t.length 0, putB t.length 1] := rfl
theorem Frame_spec {w : World} (t : Int) (s : List UInt8) {K : Value → World → Prop} (hs : s.length < 2 ^ 62) (hK : ∀ w', Kp [] w w' → K (.tuple #[.string (str (frame t s).1), .int .i64 (frame t s).2]) w') :
    callG Try.prog 30 #[.int .i64 t, .string (str s)] w K := by
  refine wal_Frame_call ?_
  simp only [wal_Frame, wal_Frame_s1]
  refine right_spec t ?_
  unfold frame at hK
  have hnil : (⟨#[]⟩ : ByteArray) = str [] := rfl
  have hbad : ¬ (turnOk t = true ∧ s ≠ [] ∧ s.length ≤ 1024) → K (.tuple #[.string (str []), .int .i64 1]) w := by
    intro h; have := hK w (Kp.refl _ _); rw [if_neg h] at this; exact this
  simp only [hnil]
  simp [-getElem?_pos, -Array.getElem?_eq_getElem, -List.length_flatten, List.getElem?_cons_zero, List.getElem?_cons_succ, ]
  refine ⟨fun h => hbad (by simp [h]), fun h => ⟨fun h1 => hbad (by simp [h1]), fun h1 => ⟨fun h2 => hbad (by omega), fun h2 => ?_⟩⟩⟩
  rw [if_pos ⟨h, h1, by omega⟩] at hK
  unfold wal_Frame_s0
  refine Put_spec t fun w1 hk1 => ?_
  simp only [lenS_s, str_size]
  refine Put_spec s.length fun w2 hk2 => ?_
  have hl := put4_len t
  have hl2 := put4_len s.length
  simp [-getElem?_pos, -Array.getElem?_eq_getElem, -List.length_flatten, List.getElem?_cons_zero, List.getElem?_cons_succ, str_extract, hl, hl2, bq_sadd]
  have hh : put4 t ++ (put4 s.length).take 2 = headOf t s := rfl
  rw [hh]
  refine Sum_spec _ (by rw [headOf_len]; omega) ?_
  refine More_spec _ _ hs ?_
  rw [crcMore_more]
  refine Put_spec _ fun w3 hk3 => ?_
  have hl3 := put4_len (crcMore 0 (headOf t s ++ s))
  have hl4 := headOf_len t s
  have b1 : (str (headOf t s)).size + (str (put4 (crcMore 0 (headOf t s ++ s)))).size < 9223372036854775808 := by simp [hl3, hl4]
  have b2 : (str (headOf t s ++ put4 (crcMore 0 (headOf t s ++ s)))).size + (str s).size < 9223372036854775808 := by simp [hl3, hl4]; omega
  rw [bq_sadd b1, str_append, bq_sadd b2, str_append]
  exact hK w3 ((hk1.trans' hk2).trans' hk3)
theorem refFrame_spec {w : World} (t : Int) (s : List UInt8) {K : Value → World → Prop} (hs : s.length < 2 ^ 62) (hK : ∀ w', Kp [] w w' → K (.tuple #[.string (str (frame t s).1), .int .i64 (frame t s).2]) w') :
    callG Try.prog 31 #[.int .i64 t, .string (str s)] w K := by
  refine ref04_Frame_call ?_
  simp only [ref04_Frame, ref04_Frame_s1]
  unfold frame at hK
  have hnil : (⟨#[]⟩ : ByteArray) = str [] := rfl
  have hbad : ¬ (turnOk t = true ∧ s ≠ [] ∧ s.length ≤ 1024) → K (.tuple #[.string (str []), .int .i64 1]) w := by
    intro h; have := hK w (Kp.refl _ _); rw [if_neg h] at this; exact this
  simp only [hnil]
  simp [-getElem?_pos, -Array.getElem?_eq_getElem, -List.length_flatten, List.getElem?_cons_zero, List.getElem?_cons_succ, ]
  refine ⟨fun h => hbad (by simp [turnOk]; omega), fun h => ⟨fun h0 => hbad (by simp [turnOk]; omega), fun h0 => ⟨fun h1 => hbad (by simp [h1]), fun h1 => ⟨fun h2 => hbad (by omega), fun h2 => ?_⟩⟩⟩⟩
  rw [if_pos ⟨by simp [turnOk]; omega, h1, by omega⟩] at hK
  unfold ref04_Frame_s0
  refine refPut_spec t fun w1 hk1 => ?_
  simp only [lenS_s, str_size]
  refine refPut_spec s.length fun w2 hk2 => ?_
  have hl := put4_len t
  have hl2 := put4_len s.length
  have hb0 : (str (headOf t s)).size + (str s).size < 9223372036854775808 := by simp [headOf_len]; omega
  have hh : put4 t ++ (put4 s.length).take 2 = headOf t s := rfl
  simp [-getElem?_pos, -Array.getElem?_eq_getElem, -List.length_flatten, List.getElem?_cons_zero, List.getElem?_cons_succ, str_extract, hl, hl2, bq_sadd, hh]
  rw [bq_sadd hb0, str_append]
  refine refSum_spec (headOf t s ++ s) (by rw [List.length_append, headOf_len]; omega) ?_
  refine refPut_spec _ fun w3 hk3 => ?_
  have hl3 := put4_len (crcMore 0 (headOf t s ++ s))
  have hl4 := headOf_len t s
  have b1 : (str (headOf t s)).size + (str (put4 (crcMore 0 (headOf t s ++ s)))).size < 9223372036854775808 := by simp [hl3, hl4]
  have b2 : (str (headOf t s ++ put4 (crcMore 0 (headOf t s ++ s)))).size + (str s).size < 9223372036854775808 := by simp [hl3, hl4]; omega
  rw [bq_sadd b1, str_append, bq_sadd b2, str_append]
  exact hK w3 ((hk1.trans' hk2).trans' hk3)
end Go.Proofs

/- Layer 4: what record bytes begin with. -/
set_option linter.unusedVariables false
set_option linter.unusedSimpArgs false
namespace Go.Proofs
open Go Go.Q
def lenAt (s : List UInt8) : Nat := (s.getD 4 0).toNat + (s.getD 5 0).toNat * 2 ^ 8
def recOf (s : List UInt8) : List UInt8 := (s.drop 10).take (lenAt s)
def nextOk (t : Int) (s : List UInt8) : Bool :=
  decide (10 < s.length) && turnOk t && decide (((takeN s 4 : Nat) : Int) = t) && decide (1 ≤ lenAt s) && decide (lenAt s ≤ 1024) && decide (lenAt s + 10 ≤ s.length) && decide (takeN (s.drop 6) 4 = crcMore 0 (s.take 6 ++ recOf s))
theorem lenAt_lt (s : List UInt8) : lenAt s < 65536 := by
  have h1 := (s.getD 4 0).toNat_lt
  have h2 := (s.getD 5 0).toNat_lt
  unfold lenAt; omega
theorem next_spec {w : World} (t : Int) (s : List UInt8) (hs : s.length < 2 ^ 62) {K : Value → World → Prop}
    (hK : ∀ w' r, Kp [] w w' → (nextOk t s = true → r = str (recOf s)) → K (.tuple #[.string r, .bool (nextOk t s)]) w') : callG Try.prog 55 #[.int .i64 t, .string (str s)] w K := by
  refine wal_next_call ?_
  simp only [wal_next, wal_next_s2, lenS_s, str_size, bq_leq, bV_b]
  have no : ∀ w', Kp [] w w' → nextOk t s = false → K (.tuple #[.string ⟨#[]⟩, .bool false]) w' := by
    intro w' hk h
    have := hK w' ⟨#[]⟩ hk (by rw [h]; intro h; cases h)
    rw [h] at this; exact this
  have hk0 : Kp [] w w := Kp.refl _ _
  refine ⟨fun h => no w hk0 ?_, fun h => ?_⟩
  · have : ¬ 10 < s.length := by simp at h; omega
    simp [nextOk, this]
  have h10 : 10 < s.length := by simp at h; omega
  refine right_spec t ?_
  simp [-getElem?_pos, -Array.getElem?_eq_getElem, -List.length_flatten, List.getElem?_cons_zero, List.getElem?_cons_succ, ]
  refine ⟨fun h => no w hk0 (by simp [nextOk, h]), fun hto => ?_⟩
  refine Take_spec s hs ?_
  rw [if_neg (by omega)]
  simp [-getElem?_pos, -Array.getElem?_eq_getElem, -List.length_flatten, List.getElem?_cons_zero, List.getElem?_cons_succ, ]
  refine ⟨fun h => no w hk0 (by simp [nextOk, h]), fun htk => ?_⟩
  unfold wal_next_s1
  have e4 : s.getD 4 0 = s[4] := by simp [List.getD, show 4 < s.length by omega]
  have e5 : s.getD 5 0 = s[5] := by simp [List.getD, show 5 < s.length by omega]
  have b4 := s[4].toNat_lt
  have b5 := s[5].toNat_lt
  have hn : lenAt s = s[4].toNat + s[5].toNat * 2 ^ 8 := by unfold lenAt; rw [e4, e5]
  have i4 : ∀ K : Value → Prop, ixS (.string (str s)) (.int .i64 4) K = K (.int .u8 s[4].toNat) := fun K => ixS_str (i := 4) (by omega)
  have i5 : ∀ K : Value → Prop, ixS (.string (str s)) (.int .i64 5) K = K (.int .u8 s[5].toNat) := fun K => ixS_str (i := 5) (by omega)
  simp only [i4, i5, cvI_i, wrap_nat64 (show s[4].toNat < 2 ^ 63 by omega), wrap_nat64 (show s[5].toNat < 2 ^ 63 by omega)]
  rw [shl_of (by omega) (by decide)]
  have hc : ((s[5].toNat : Int) * (2 : Int) ^ (8 : Int).toNat) = ((s[5].toNat * 2 ^ 8 : Nat) : Int) := by simp
  rw [hc, wrap_nat64 (by omega), or64_of (by omega) (by omega), or_add (by omega), ← hn]
  have hkd : Kp [] w w.drew := (Kp.refl _ _).drew
  have hlt := lenAt_lt s
  simp only [bq_lss, bq_gtr, bV_b]
  refine ⟨fun h => no _ hkd ?_, fun h1 => ⟨fun h => no _ hkd ?_, fun h2 => ?_⟩⟩
  · have : ¬ 1 ≤ lenAt s := by simp at h; omega
    simp [nextOk, this]
  · have : ¬ lenAt s ≤ 1024 := by simp at h; omega
    simp [nextOk, this]
  have h1 : 1 ≤ lenAt s := by simp at h1; omega
  have h2 : lenAt s ≤ 1024 := by simp at h2; omega
  have hsub : IntKind.i64.wrap ((s.length : Int) - 10) = (s.length : Int) - 10 := w64 (by omega) (by omega)
  simp only [lenS_s, str_size, bq_sub, hsub, bq_gtr, bV_b]
  refine ⟨fun h => no _ hkd ?_, fun h3 => ?_⟩
  · have : ¬ lenAt s + 10 ≤ s.length := by simp at h; omega
    simp [nextOk, this]
  have h3 : lenAt s + 10 ≤ s.length := by simp at h3; omega
  unfold wal_next_s0
  have hadd : IntKind.i64.wrap (10 + (lenAt s : Int)) = ((10 + lenAt s : Nat) : Int) := by rw [w64 (by omega) (by omega)]; simp
  have hext : (str s).extract 10 (10 + lenAt s) = str (recOf s) := by
    rw [str_extract]; unfold recOf; rw [List.drop_take]; congr 2; omega
  have hle1 : ((10 + lenAt s : Nat) : Int) ≤ s.length := by omega
  have hle2 : (10 : Int) ≤ ((10 + lenAt s : Nat) : Int) := by omega
  have h6 : (6 : Int) ≤ s.length := by omega
  have hext2 : (str s).extract 6 s.length = str (s.drop 6) := by rw [str_extract, List.take_length]
  have hext3 : (str s).extract 0 6 = str (s.take 6) := by rw [str_extract]; rfl
  simp only [bq_add, hadd, slS_p, bnd_some, bnd_none, str_size, Int.toNat_natCast]
  refine ⟨⟨by omega, hle1⟩, ⟨by omega, hle2⟩, ⟨by omega, h6⟩, ⟨by omega, h6⟩, ?_⟩
  have t10 : (10 : Int).toNat = 10 := rfl
  have t6 : (6 : Int).toNat = 6 := rfl
  rw [t10, t6, hext, hext2, hext3]
  refine Take_spec (s.drop 6) (by simp; omega) ?_
  rw [if_neg (by simp; omega)]
  refine Sum_spec (s.take 6) (by simp; omega) ?_
  have hrl : (recOf s).length = lenAt s := by unfold recOf; simp; omega
  refine More_spec _ (recOf s) (by omega) ?_
  rw [crcMore_more]
  simp only [bq_eql]
  have hok : nextOk t s = decide (((takeN (s.drop 6) 4 : Nat) : Int) = (crcMore 0 (s.take 6 ++ recOf s) : Nat)) := by
    have hi : (((takeN (s.drop 6) 4 : Nat) : Int) = (crcMore 0 (s.take 6 ++ recOf s) : Nat)) = (takeN (s.drop 6) 4 = crcMore 0 (s.take 6 ++ recOf s)) := by apply propext; omega
    simp only [hi]
    simp [nextOk, h10, hto, htk, h1, h2, h3]
  rw [← hok]
  exact hK _ _ hkd.drew fun _ => rfl
/-! ### a record is whole just where its bytes are its frame -/
theorem put_take {s : List UInt8} (h : 4 ≤ s.length) : put4 (takeN s 4 : Nat) = s.take 4 := by
  obtain ⟨a, b, c, d, r, rfl⟩ := take4_get (s := s) (by omega)
  have ha := a.toNat_lt
  have hb := b.toNat_lt
  have hc := c.toNat_lt
  have hd := d.toNat_lt
  have hN : takeN (a :: b :: c :: d :: r) 4 = a.toNat + b.toNat * 256 + c.toNat * 65536 + d.toNat * 16777216 := by
    simp [takeN, List.getD]
  rw [hN]
  have p : ∀ (k : Nat) (x : UInt8), ((((a.toNat + b.toNat * 256 + c.toNat * 65536 + d.toNat * 16777216 : Nat) : Int) / 2 ^ (8 * k)) % 256).toNat = x.toNat → putB ((a.toNat + b.toNat * 256 + c.toNat * 65536 + d.toNat * 16777216 : Nat) : Int) k = x := by
    intro k x h
    unfold putB
    rw [h]; simp
  have q0 := p 0 a (by simp; omega)
  have q1 := p 1 b (by simp; omega)
  have q2 := p 2 c (by simp; omega)
  have q3 := p 3 d (by simp; omega)
  unfold put4
  rw [q0, q1, q2, q3]
  rfl
theorem take_put (x : Nat) (h : x < 4294967296) (r : List UInt8) : takeN (put4 x ++ r) 4 = x := by
  have p : ∀ k, (putB x k).toNat = (x / 2 ^ (8 * k)) % 256 := by
    intro k
    unfold putB
    have : (((x : Int) / 2 ^ (8 * k)) % 256).toNat = (x / 2 ^ (8 * k)) % 256 := by
      have : ((x : Int) / 2 ^ (8 * k)) = ((x / 2 ^ (8 * k) : Nat) : Int) := by simp
      rw [this]; omega
    rw [this]
    simp
  have hN : takeN (put4 x ++ r) 4 = (putB x 0).toNat + (putB x 1).toNat * 256 + (putB x 2).toNat * 65536 + (putB x 3).toNat * 16777216 := by
    simp [takeN, List.getD, put4]
  rw [hN, p, p, p, p]
  simp
  omega
end Go.Proofs

/- Layer 4: the records of bytes. -/
set_option linter.unusedVariables false
set_option linter.unusedSimpArgs false
namespace Go.Proofs
open Go Go.Q
theorem recOf_len {s : List UInt8} (h : lenAt s + 10 ≤ s.length) : (recOf s).length = lenAt s := by unfold recOf; simp; omega
theorem head_take {s : List UInt8} {t : Int} (h : lenAt s + 10 ≤ s.length) (h4 : put4 t = s.take 4) : headOf t (recOf s) = s.take 6 := by
  have h6 : 6 ≤ s.length := by omega
  obtain ⟨a, b, c, d, r, rfl⟩ := take4_get (s := s) (by omega)
  match r, h6 with
  | e :: f :: r, _ =>
    have he := e.toNat_lt
    have hf := f.toNat_lt
    have hl : lenAt (a :: b :: c :: d :: e :: f :: r) = e.toNat + f.toNat * 256 := by simp [lenAt, List.getD]
    have p0 : putB (lenAt (a :: b :: c :: d :: e :: f :: r) : Nat) 0 = e := by
      rw [hl]
      unfold putB
      have : ((((e.toNat + f.toNat * 256 : Nat) : Int) / 2 ^ (8 * 0)) % 256).toNat = e.toNat := by simp; omega
      rw [this]; simp
    have p1 : putB (lenAt (a :: b :: c :: d :: e :: f :: r) : Nat) 1 = f := by
      rw [hl]
      unfold putB
      have : ((((e.toNat + f.toNat * 256 : Nat) : Int) / 2 ^ (8 * 1)) % 256).toNat = f.toNat := by simp; omega
      rw [this]; simp
    unfold headOf
    rw [put2, h4, recOf_len h, p0, p1]
    rfl
theorem next_frame (t : Int) (s : List UInt8) : nextOk t s = true ↔ (10 < s.length ∧ 1 ≤ lenAt s ∧ lenAt s ≤ 1024 ∧ lenAt s + 10 ≤ s.length ∧ frame t (recOf s) = (s.take (10 + lenAt s), 0)) := by
  have hsum : ∀ {h : List UInt8}, lenAt s + 10 ≤ s.length → s.take 6 ++ (s.drop 6).take 4 ++ recOf s = s.take (10 + lenAt s) := by
    intro _ h
    unfold recOf
    rw [List.take_add (l := s) (i := 10), show (10 : Nat) = 6 + 4 from rfl, List.take_add (l := s) (i := 6)]
  constructor
  · intro h
    simp only [nextOk, Bool.and_eq_true, decide_eq_true_eq] at h
    obtain ⟨⟨⟨⟨⟨⟨h1, h2⟩, h3⟩, h4⟩, h5⟩, h6⟩, h7⟩ := h
    refine ⟨h1, h4, h5, h6, ?_⟩
    have hl := recOf_len h6
    have hp : put4 t = s.take 4 := by rw [← h3]; exact put_take (by omega)
    have hh := head_take h6 hp
    unfold frame
    rw [if_pos ⟨h2, by intro h0; rw [h0] at hl; simp at hl; omega, by omega⟩]
    unfold frameB
    rw [hh, ← h7, put_take (by simp; omega), hsum (h := []) h6]
  · rintro ⟨h1, h4, h5, h6, h⟩
    have hl := recOf_len h6
    unfold frame at h
    split at h
    · rename_i hc
      injection h with h _
      have hto := hc.1
      have ht : 1 ≤ t ∧ t ≤ 2147483647 := by simpa [turnOk] using hto
      unfold frameB at h
      have e4 : put4 t = s.take 4 := by
        have := congrArg (List.take 4) h
        rw [List.take_take, Nat.min_eq_left (by omega)] at this
        rw [← this]
        simp [headOf, put4]
      have hh := head_take h6 e4
      have hts : ((takeN s 4 : Nat) : Int) = t := by
        have hs : s = put4 t ++ s.drop 4 := by rw [e4, List.take_append_drop]
        obtain ⟨n, rfl⟩ : ∃ n : Nat, t = n := ⟨t.toNat, by omega⟩
        rw [hs, take_put n (by omega)]
      have e6 : put4 (crcMore 0 (s.take 6 ++ recOf s)) = (s.drop 6).take 4 := by
        rw [hh] at h
        have := congrArg (fun l => (l.drop 6).take 4) h
        simp only [List.append_assoc] at this
        rw [List.drop_left' (by simp; omega), List.take_left' (put4_len _), List.drop_take, List.take_take, Nat.min_eq_left (by omega)] at this
        exact this
      have h7 : takeN (s.drop 6) 4 = crcMore 0 (s.take 6 ++ recOf s) := by
        have hs : s.drop 6 = put4 (crcMore 0 (s.take 6 ++ recOf s)) ++ (s.drop 6).drop 4 := by rw [e6, List.take_append_drop]
        have := take_put (crcMore 0 (s.take 6 ++ recOf s)) (crcMore_lt _ _) ((s.drop 6).drop 4)
        rw [← hs] at this
        exact this
      simp [nextOk, h1, hto, hts, h4, h5, h6, h7]
    · injection h with _ h
      cases h
def scanL (t : Int) : Nat → List UInt8 → List (List UInt8)
  | 0, _ => []
  | n + 1, s => if nextOk t s = true then recOf s :: scanL t n (s.drop (10 + lenAt s)) else []
def usedOf (l : List (List UInt8)) : Nat := (l.map fun r => 10 + r.length).sum
theorem usedOf_snoc (l : List (List UInt8)) (r : List UInt8) : usedOf (l ++ [r]) = usedOf l + (10 + r.length) := by simp [usedOf]
theorem usedOf_len (l : List (List UInt8)) : l.length ≤ usedOf l := by
  induction l with
  | nil => simp
  | cons x l ih => simp [usedOf] at ih ⊢; omega
def scan (t : Int) (s : List UInt8) : List (List UInt8) := scanL t s.length s
theorem Scan_spec {w : World} (t : Int) (s : List UInt8) (hs : s.length < 2 ^ 40) {K : Value → World → Prop}
    (hK : ∀ w' v S, RowsAt w' v 1 ((scan t s).map strV) S → Kp [] w w' → (∀ y ∈ S, w.heap.size ≤ y) → K (.tuple #[v, .int .i64 (usedOf (scan t s))]) w') : callG Try.prog 32 #[.int .i64 t, .string (str s)] w K := by
  refine wal_Scan_call ?_
  simp only [wal_Scan, wal_Scan_s2]
  unfold wal_Scan_L1
  refine loop_inv (fun m xs wi => ∃ out f v S, scan t s = out ++ scanL t f (s.drop (usedOf out)) ∧ usedOf out ≤ s.length ∧ s.length - usedOf out ≤ f ∧ m = s.length - usedOf out ∧ xs = [.int .i64 t, .string (str s), v, .int .i64 (usedOf out)] ∧
      RowsAt wi v 1 (out.map strV) S ∧ Kp [] w wi ∧ ∀ y ∈ S, w.heap.size ≤ y)
    ?_ (m := s.length) ⟨[], s.length, .slice none 0 0, [], rfl, by simp [usedOf], by simp [usedOf], by simp [usedOf], rfl, .inl ⟨rfl, rfl, rfl⟩, Kp.refl _ _, by simp⟩
  rintro m N xs wi ⟨out, f, v, S, hsc, hu, hf, rfl, rfl, hr, hk, hS⟩ hN
  simp only [wal_Scan_L1F, wal_Scan_b0, slS_p, bnd_some, bnd_none, str_size, Int.toNat_natCast]
  refine ⟨⟨by omega, by omega⟩, ?_⟩
  rw [str_extract, List.take_length]
  refine next_spec t (s.drop (usedOf out)) (by simp; omega) fun w1 r hk1 hr1 => ?_
  cases hok : nextOk t (s.drop (usedOf out)) with
  | false =>
    simp [-getElem?_pos, -Array.getElem?_eq_getElem, -List.length_flatten, List.getElem?_cons_zero, List.getElem?_cons_succ, ]
    have he : scanL t f (s.drop (usedOf out)) = [] := by
      cases f with
      | zero => rfl
      | succ f => unfold scanL; rw [if_neg (by rw [hok]; simp)]
    rw [he, List.append_nil] at hsc
    rw [hsc] at hK
    exact hK w1 v S (hr.keep hk1 (by simp)) (hk.trans' hk1) hS
  | true =>
    have hrr := hr1 hok
    subst hrr
    obtain ⟨n1, n2, n3, n4, n5⟩ := (next_frame t _).1 hok
    have hrl := recOf_len n4
    rw [List.length_drop] at n1 n4
    obtain ⟨f, rfl⟩ : ∃ f', f = f' + 1 := ⟨f - 1, by omega⟩
    have he : scanL t (f + 1) (s.drop (usedOf out)) = recOf (s.drop (usedOf out)) :: scanL t f ((s.drop (usedOf out)).drop (10 + lenAt (s.drop (usedOf out)))) := by
      conv => lhs; unfold scanL
      rw [if_pos hok]
    rw [he] at hsc
    obtain ⟨rc, hrc⟩ : ∃ rc, rc = recOf (s.drop (usedOf out)) := ⟨_, rfl⟩
    obtain ⟨n, hn⟩ : ∃ n, n = lenAt (s.drop (usedOf out)) := ⟨_, rfl⟩
    rw [← hrc, ← hn] at hsc hrl
    rw [← hn] at n2 n3 n4
    rw [← hrc]
    have hlen := usedOf_len out
    simp only [ex0, ex1]
    simp [-getElem?_pos, -Array.getElem?_eq_getElem, -List.length_flatten, List.getElem?_cons_zero, List.getElem?_cons_succ, ]
    rw [bsl_one rfl]
    obtain ⟨w3, hw3⟩ : ∃ w3, w3 = w1.alloc (.cells #[.string (str rc)] 9) := ⟨_, rfl⟩
    have hk3 : Kp [] w1 w3 := by rw [hw3]; exact (Kp.refl [] w1).alloc _
    have hb3 : w3.heap[w1.heap.size]? = some (.cells #[.string (str rc)] 9) := by rw [hw3]; exact heap_new
    rw [← hw3, zc9]
    have hs3 : RdAt w3 (.slice (some ⟨w1.heap.size, 0, none⟩) 1 1) 1 [strV rc] [w1.heap.size] :=
      .inr ⟨_, 0, 1, _, _, _, rfl, rfl, hb3, by simp [strV], by simp, by simp [strV], by simp⟩
    have hk13 := hk1.trans' hk3
    refine rows_app (k := 1) (z := [.string ⟨#[]⟩]) (G := [strV rc]) (hr.keep hk13 (by simp)) (by omega) rfl (by simp [strV]) (by simp [strV, Q.one]) (fun K' hK' => hs3.src K' hK') (by simp; omega) (by simp; omega) fun v4 w4 S4 h4 hk4 hS4 => ?_
    have hw3s := (hk.trans' hk13).size
    have ha1 : IntKind.i64.wrap (10 + (rc.length : Int)) = ((10 + rc.length : Nat) : Int) := by rw [w64 (by omega) (by omega)]; simp
    have hus := usedOf_snoc out rc
    have ha2 : IntKind.i64.wrap ((usedOf out : Int) + ((10 + rc.length : Nat) : Int)) = ((usedOf (out ++ [rc]) : Nat) : Int) := by rw [w64 (by omega) (by omega), hus]; simp
    simp only [lenS_s, str_size, bq_add, ha1, ha2]
    refine hN (s.length - usedOf (out ++ [rc])) _ _ (by omega) ⟨out ++ [rc], f, v4, S4, ?_, by omega, by omega, rfl, rfl, by simpa using h4, (hk.trans' hk13).trans hk4 fun y hy hlt => by have := hS y hy; omega, fun y hy => ?_⟩
    · rw [hsc, List.drop_drop, hus, hrl]; simp
    · rcases hS4 y hy with h | h
      · exact hS y h
      · omega
end Go.Proofs

/- Layer 4: the document's records of bytes. -/
set_option linter.unusedVariables false
set_option linter.unusedSimpArgs false
namespace Go.Proofs
open Go Go.Q
theorem refScan_spec {w : World} (t : Int) (s : List UInt8) (hs : s.length < 2 ^ 40) {K : Value → World → Prop}
    (hK : ∀ w' v S, RowsAt w' v 1 ((scan t s).map strV) S → Kp [] w w' → (∀ y ∈ S, w.heap.size ≤ y) → K (.tuple #[v, .int .i64 (usedOf (scan t s))]) w') : callG Try.prog 33 #[.int .i64 t, .string (str s)] w K := by
  refine ref04_Scan_call ?_
  simp only [ref04_Scan, ref04_Scan_s6]
  unfold ref04_Scan_L5
  refine loop_inv (fun m xs wi => ∃ out f v S, scan t s = out ++ scanL t f (s.drop (usedOf out)) ∧ usedOf out ≤ s.length ∧ s.length - usedOf out ≤ f ∧ m = s.length - usedOf out ∧ xs = [.int .i64 t, .string (str s), v, .int .i64 (usedOf out)] ∧
      RowsAt wi v 1 (out.map strV) S ∧ Kp [] w wi ∧ ∀ y ∈ S, w.heap.size ≤ y)
    ?_ (m := s.length) ⟨[], s.length, .slice none 0 0, [], rfl, by simp [usedOf], by simp [usedOf], by simp [usedOf], rfl, .inl ⟨rfl, rfl, rfl⟩, Kp.refl _ _, by simp⟩
  rintro m N xs wi ⟨out, f, v, S, hsc, hu, hf, rfl, rfl, hr, hk, hS⟩ hN
  have stop : ∀ w1, Kp [] wi w1 → nextOk t (s.drop (usedOf out)) = false → ref04_Scan_s0 K v (.int .i64 (usedOf out)) w1 := by
    intro w1 hk1 hok
    have he : scanL t f (s.drop (usedOf out)) = [] := by
      cases f with
      | zero => rfl
      | succ f => unfold scanL; rw [if_neg (by rw [hok]; simp)]
    rw [he, List.append_nil] at hsc
    rw [hsc] at hK
    exact hK w1 v S (hr.keep hk1 (by simp)) (hk.trans' hk1) hS
  have hk0 : Kp [] wi wi := Kp.refl _ _
  have hsub : IntKind.i64.wrap ((s.length : Int) - (usedOf out : Nat)) = ((s.length - usedOf out : Nat) : Int) := by rw [w64 (by omega) (by omega)]; omega
  simp only [ref04_Scan_L5F, ref04_Scan_s4, lenS_s, str_size, bq_sub, hsub, bq_gtr, bV_b]
  obtain ⟨r, hr0⟩ : ∃ r, r = s.drop (usedOf out) := ⟨_, rfl⟩
  have hrl : r.length = s.length - usedOf out := by rw [hr0]; simp
  rw [← hrl]
  rw [← hr0] at stop hsc
  refine ⟨fun h10 => ?_, fun h => stop wi hk0 (by
    have : ¬ 10 < r.length := by simp at h; omega
    simp [nextOk, this])⟩
  have h10 : 10 < r.length := by simp at h10; omega
  unfold ref04_Scan_s3
  simp only [slS_p, bnd_some, bnd_none, str_size, Int.toNat_natCast]
  refine ⟨⟨by omega, by omega⟩, ?_⟩
  rw [str_extract, List.take_length, ← hr0]
  have e4 : r.getD 4 0 = r[4] := by simp [List.getD, show 4 < r.length by omega]
  have e5 : r.getD 5 0 = r[5] := by simp [List.getD, show 5 < r.length by omega]
  have b4 := r[4].toNat_lt
  have b5 := r[5].toNat_lt
  have hn : lenAt r = r[4].toNat + r[5].toNat * 2 ^ 8 := by unfold lenAt; rw [e4, e5]
  have i4 : ∀ K : Value → Prop, ixS (.string (str r)) (.int .i64 4) K = K (.int .u8 r[4].toNat) := fun K => ixS_str (i := 4) (by omega)
  have i5 : ∀ K : Value → Prop, ixS (.string (str r)) (.int .i64 5) K = K (.int .u8 r[5].toNat) := fun K => ixS_str (i := 5) (by omega)
  simp only [i4, i5, cvI_i, wrap_nat64 (show r[4].toNat < 2 ^ 63 by omega), wrap_nat64 (show r[5].toNat < 2 ^ 63 by omega)]
  rw [shl_of (by omega) (by decide)]
  have hc : ((r[5].toNat : Int) * (2 : Int) ^ (8 : Int).toNat) = ((r[5].toNat * 2 ^ 8 : Nat) : Int) := by simp
  rw [hc, wrap_nat64 (by omega), or64_of (by omega) (by omega), or_add (by omega), ← hn]
  have hkd : Kp [] wi wi.drew := (Kp.refl _ _).drew
  have hlt := lenAt_lt r
  simp only [bq_eql, bq_gtr, bV_b]
  refine ⟨fun h => stop _ hkd ?_, fun h1 => ⟨fun h => stop _ hkd ?_, fun h2 => ?_⟩⟩
  · have : ¬ 1 ≤ lenAt r := by simp at h; omega
    simp [nextOk, this]
  · have : ¬ lenAt r ≤ 1024 := by simp at h; omega
    simp [nextOk, this]
  have h1 : 1 ≤ lenAt r := by simp at h1; omega
  have h2 : lenAt r ≤ 1024 := by simp at h2; omega
  have hsub2 : IntKind.i64.wrap ((r.length : Int) - 10) = (r.length : Int) - 10 := w64 (by omega) (by omega)
  simp only [lenS_s, str_size, bq_sub, hsub2, bq_lss, bV_b]
  refine ⟨fun h => stop _ hkd ?_, fun h3 => ?_⟩
  · have : ¬ lenAt r + 10 ≤ r.length := by simp at h; omega
    simp [nextOk, this]
  have h3 : lenAt r + 10 ≤ r.length := by simp at h3; omega
  have hrcl := recOf_len h3
  obtain ⟨rc, hrc⟩ : ∃ rc, rc = recOf r := ⟨_, rfl⟩
  have hnf := next_frame t r
  have hadd : IntKind.i64.wrap (10 + (lenAt r : Int)) = ((10 + lenAt r : Nat) : Int) := by rw [w64 (by omega) (by omega)]; simp
  have hext : (str r).extract 10 (10 + lenAt r) = str (recOf r) := by
    rw [str_extract]; unfold recOf; rw [List.drop_take]; congr 2; omega
  have hle1 : ((10 + lenAt r : Nat) : Int) ≤ r.length := by omega
  have hle2 : (10 : Int) ≤ ((10 + lenAt r : Nat) : Int) := by omega
  have t10 : (10 : Int).toNat = 10 := rfl
  unfold ref04_Scan_s2
  simp only [bq_add, hadd, slS_p, bnd_some, bnd_none, str_size, Int.toNat_natCast, t10, hext]
  refine ⟨⟨by omega, hle1⟩, ⟨by omega, hle2⟩, ?_⟩
  rw [← hrc] at hnf hrcl ⊢
  refine refFrame_spec t rc (by omega) fun w1 hk1 => ?_
  have hk1' := hkd.trans' hk1
  have hpre : (str r).extract 0 (10 + lenAt r) = str (r.take (10 + lenAt r)) := by rw [str_extract]; rfl
  have hf2 : (frame t rc).2 = 0 ∨ (frame t rc).2 = 1 := by unfold frame; split <;> simp
  simp only [ex0, ex1, bq_neq, bV_b]
  refine ⟨fun h => stop _ hk1' ?_, fun h => ?_⟩
  · cases hok : nextOk t r with
    | false => rfl
    | true =>
      obtain ⟨_, _, _, _, hfr⟩ := hnf.1 hok
      rw [hfr] at h; simp at h
  have hz : (frame t rc).2 = 0 := by simpa using h
  refine ⟨⟨by omega, hle1⟩, ?_⟩
  rw [hpre, bq_sneq]
  simp only [bV_b]
  refine ⟨fun h => stop _ hk1' ?_, fun h => ?_⟩
  · cases hok : nextOk t r with
    | false => rfl
    | true =>
      obtain ⟨_, _, _, _, hfr⟩ := hnf.1 hok
      rw [hfr] at h; simp at h
  have hfe : (frame t rc).1 = r.take (10 + lenAt r) := by simpa using h
  have hok : nextOk t r = true := hnf.2 ⟨h10, h1, h2, h3, by rw [← hfe, ← hz]⟩
  obtain ⟨f, rfl⟩ : ∃ f', f = f' + 1 := ⟨f - 1, by omega⟩
  have he : scanL t (f + 1) r = rc :: scanL t f (r.drop (10 + lenAt r)) := by
    conv => lhs; unfold scanL
    rw [if_pos hok, hrc]
  rw [he] at hsc
  obtain ⟨n, hnn⟩ : ∃ n, n = lenAt r := ⟨_, rfl⟩
  rw [← hnn] at hsc hrcl hadd hext hle1 hle2 h1 h2 h3 ⊢
  have hlen := usedOf_len out
  unfold ref04_Scan_s1
  simp only [bq_add, hadd, slS_p, bnd_some, bnd_none, str_size, Int.toNat_natCast, t10, hext]
  refine ⟨⟨by omega, hle1⟩, ⟨by omega, hle2⟩, ?_⟩
  rw [← hrc, bsl_one rfl]
  obtain ⟨w3, hw3⟩ : ∃ w3, w3 = w1.alloc (.cells #[.string (str rc)] 9) := ⟨_, rfl⟩
  have hk3 : Kp [] w1 w3 := by rw [hw3]; exact (Kp.refl [] w1).alloc _
  have hb3 : w3.heap[w1.heap.size]? = some (.cells #[.string (str rc)] 9) := by rw [hw3]; exact heap_new
  rw [← hw3, zc9]
  have hs3 : RdAt w3 (.slice (some ⟨w1.heap.size, 0, none⟩) 1 1) 1 [strV rc] [w1.heap.size] :=
    .inr ⟨_, 0, 1, _, _, _, rfl, rfl, hb3, by simp [strV], by simp, by simp [strV], by simp⟩
  have hk13 := hk1'.trans' hk3
  refine rows_app (k := 1) (z := [.string ⟨#[]⟩]) (G := [strV rc]) (hr.keep hk13 (by simp)) (by omega) rfl (by simp [strV]) (by simp [strV, Q.one]) (fun K' hK' => hs3.src K' hK') (by simp; omega) (by simp; omega) fun v4 w4 S4 h4 hk4 hS4 => ?_
  have hw3s := (hk.trans' hk13).size
  have hus := usedOf_snoc out rc
  have ha1 : IntKind.i64.wrap ((usedOf out : Int) + 10) = ((usedOf out + 10 : Nat) : Int) := by rw [w64 (by omega) (by omega)]; simp
  have ha2 : IntKind.i64.wrap (((usedOf out + 10 : Nat) : Int) + (n : Int)) = ((usedOf (out ++ [rc]) : Nat) : Int) := by rw [w64 (by omega) (by omega), hus]; omega
  rw [ha1, ha2]
  refine hN (s.length - usedOf (out ++ [rc])) _ _ (by omega) ⟨out ++ [rc], f, v4, S4, ?_, by omega, by omega, rfl, rfl, by simpa using h4, (hk.trans' hk13).trans hk4 fun y hy hlt => by have := hS y hy; omega, fun y hy => ?_⟩
  · rw [hsc, hr0, List.drop_drop, hus, hrcl]; simp
  · rcases hS4 y hy with h | h
    · exact hS y h
    · omega
end Go.Proofs

/- What a row says of a slice that came in, in the words of the contracts. -/
set_option linter.unusedVariables false
set_option linter.unusedSimpArgs false
namespace Go.Q
theorem wf64 {n : Int} (h : (Lit.int .i64 n).wf = true) : -9223372036854775808 ≤ n ∧ n < 9223372036854775808 := by
  simp [Lit.wf, IntKind.min, IntKind.max, IntKind.bits, IntKind.signed] at h
  omega
theorem cell_block {w : World} {x : Addr} {v : Value} (h : w.cell? x = some v) : x.spot = none ∧ ∃ c T fr, w.heap[x.block]? = some (.cells c T fr) ∧ c[x.off]? = some v := by
  unfold World.cell? at h
  split at h
  · rename_i c T fr hh
    split at h
    · cases h
    · rename_i hs
      exact ⟨by simpa using hs, c, T, fr, hh, h⟩
  · cases h
theorem ints_nil {w : World} {cap : Nat} : IntsAt w (.slice none 0 cap) [] [] := ⟨none, cap, rfl, .inl rfl⟩
theorem ints_in {w : World} {x : Addr} {len cap : Nat} {zs : List Int} (hc : ∀ i, i < zs.length → w.cell? (x.add i) = some (.int .i64 (zs.getD i 0))) (hl : len ≤ zs.length) :
    ∃ SK, IntsAt w (.slice (some x) len cap) (zs.take len) SK ∧ ∀ b ∈ SK, b < w.heap.size := by
  by_cases h0 : len = 0
  · subst h0
    exact ⟨[], ⟨some x, cap, by simp, .inl (by simp)⟩, by simp⟩
  · have hz := hc 0 (by omega)
    have hz' : w.cell? x = some (.int .i64 (zs.getD 0 0)) := by simpa [Addr.add] using hz
    obtain ⟨hs, c, T, fr, hh, hc0⟩ := cell_block hz'
    obtain ⟨b, o, s⟩ := x
    simp only at hs
    subst hs
    refine ⟨[b], ⟨some ⟨b, o, none⟩, cap, by simp; omega, .inr ⟨b, o, c, T, fr, rfl, rfl, hh, fun i hi => ?_⟩⟩, ?_⟩
    · have hi' : i < len ∧ i < zs.length := by simp at hi; omega
      have h1 := hc i hi'.2
      rw [add_none rfl] at h1
      obtain ⟨_, c', T', fr', hh', h2⟩ := cell_block h1
      simp only at hh' h2
      rw [hh] at hh'
      obtain ⟨rfl, rfl, rfl⟩ : c = c' ∧ T = T' ∧ fr = fr' := by simpa using hh'
      rw [h2]
      have : (List.take len zs).getD i 0 = zs.getD i 0 := by simp [List.getD, List.getElem?_take, hi'.1]
      rw [this]
    · intro y hy
      simp only [List.mem_singleton] at hy
      subst hy
      have := (Array.getElem?_eq_some_iff.mp hh).1
      exact this
end Go.Q

/- Slices that came in, whatever their elements are: rows of cells, each of which the statement's own reading took. -/
set_option linter.unusedVariables false
set_option linter.unusedSimpArgs false
namespace Go.Q
/-- a slice that came in -/
def ArgAt (w : World) (v : Value) (k : Nat) (rows : List (List Value)) (S : List Nat) : Prop :=
  (∃ a cap, v = .slice a 0 cap ∧ rows = []) ∨ RdAt w v k rows S
section
variable {w : World} {v : Value} {k : Nat} {rows : List (List Value)} {S : List Nat}
theorem ArgAt.keep {w' : World} {S' : List Nat} (h : ArgAt w v k rows S) (hk : Kp S' w w') (hd : ∀ x ∈ S, x ∉ S') : ArgAt w' v k rows S := h.imp id fun h => h.keep hk hd
theorem ArgAt.lenL (h : ArgAt w v k rows S) {K : Value → Prop} : lenL v K = K (.int .i64 rows.length) := by
  rcases h with ⟨a, cap, h1, h2⟩ | h
  · rw [h1, h2]; rfl
  · exact h.lenL
theorem ArgAt.src (h : ArgAt w v k rows S) (K' : Nat → Array Value → Prop) (hK : K' rows.length rows.flatten.toArray) : Q.srcA k v w K' := by
  rcases h with ⟨a, cap, h1, h2⟩ | h
  · subst h1; subst h2
    cases a with
    | none => exact hK
    | some a =>
      simp only [Q.srcA, Nat.zero_mul, if_true]
      exact hK
  · exact h.src K' hK
theorem ArgAt.take (h : ArgAt w v k rows S) {p : Nat} (hp : p ≤ rows.length) {kd : IntKind} : ∃ v', ArgAt w v' k (rows.take p) S ∧ ∀ K, slL k v none (some (.int kd p)) K = K v' := by
  rcases h with ⟨a, cap, h1, h2⟩ | h
  · subst h1; subst h2
    have : p = 0 := by simpa using hp
    subst this
    exact ⟨.slice (if cap = 0 then a else a.map (·.add (0 * k))) 0 (cap - 0), .inl ⟨_, _, rfl, by simp⟩, fun K => by simp [slL, bnd]⟩
  · obtain ⟨v', h1, h2⟩ := h.take hp (kd := kd)
    exact ⟨v', .inr h1, h2⟩
theorem ArgAt.drop (h : ArgAt w v k rows S) {p : Nat} (hp : p ≤ rows.length) {kd : IntKind} : ∃ v', ArgAt w v' k (rows.drop p) S ∧ ∀ K, slL k v (some (.int kd p)) none K = K v' := by
  rcases h with ⟨a, cap, h1, h2⟩ | h
  · subst h1; subst h2
    have : p = 0 := by simpa using hp
    subst this
    exact ⟨.slice (if cap = 0 then a else a.map (·.add (0 * k))) 0 (cap - 0), .inl ⟨_, _, rfl, by simp⟩, fun K => by simp [slL, bnd]⟩
  · obtain ⟨v', h1, h2⟩ := h.drop hp (kd := kd)
    exact ⟨v', .inr h1, h2⟩
theorem ArgAt.row (h : ArgAt w v k rows S) {x : List Value} (hx : x ∈ rows) : x.length = k := by
  rcases h with ⟨a, cap, h1, h2⟩ | h
  · rw [h2] at hx; cases hx
  · exact h.row hx
theorem ArgAt.at (h : ArgAt w v k rows S) {i : Nat} (hi : i < rows.length) :
    ∃ bl o T c fr, bl ∈ S ∧ w.heap[bl]? = some (.cells c T fr) ∧ (∀ kd K, ia k v (.int kd i) K = K (.pointer (some ⟨bl, o, none⟩))) ∧ o + k ≤ c.size ∧ c.extract o (o + k) = rows[i].toArray ∧
      ∀ j, j < k → c[o + j]? = rows[i][j]? := by
  rcases h with ⟨a, cap, h1, h2⟩ | h
  · rw [h2] at hi; cases hi
  · exact h.at hi
theorem chop_flat (l : List Value) (k : Nat) : ∀ n, ((List.range n).map fun i => (l.drop (i * k)).take k).flatten = l.take (n * k) := by
  intro n
  induction n with
  | zero => simp
  | succ n ih =>
    rw [List.range_succ, List.map_append, List.flatten_append, ih]
    simp only [List.map_cons, List.map_nil, List.flatten_cons, List.flatten_nil, List.append_nil]
    rw [Nat.succ_mul, List.take_add]
end
section
variable {H : Type} {enc : TypeId × Value → H} {P : Program} {w : World} {base : Nat} {spare : Nat → Bool} {held : Bool}
theorem arg_slice {t e : TypeId} {n fuel : Nat} {cs : List Value} {x : DataW H × List MemPlace} (ht : P.underlying t = some (.slice e)) (hc : P.cellsOf e = n) (hn : 0 < n)
    (h : DataW.trod enc P w base spare held fuel t cs = some x) :
    ∃ v rows SK, cs = [v] ∧ ArgAt w v n rows SK ∧ (∀ b ∈ SK, b < w.heap.size) ∧ rows.length ≤ maxLen ∧ ∀ r ∈ rows, ∃ f y, DataW.trod enc P w base spare held f e r = some y := by
  rcases DataW.trod_slice ht h with ⟨h1, _⟩ | ⟨a, len, cap, elems, rest, m, _, rfl, _, hb, hl, hm, hlen, hel, _, _⟩
  · exact ⟨_, [], [], h1, .inl ⟨none, 0, rfl, rfl⟩, by simp, by simp, by simp⟩
  · rw [hc] at hel
    by_cases h0 : len = 0
    · subst h0
      exact ⟨_, [], [], rfl, .inl ⟨some a, cap, rfl, rfl⟩, by simp, by simp, by simp⟩
    · have each : ∀ i, i < len → ∃ cs y, w.cells? base (a.add (i * n)) n = some cs ∧ DataW.trod enc P w base spare held m e cs = some y := by
        intro i hi
        have h1 := hel i hi
        have h2 : elems[i]? = some elems[i] := List.getElem?_eq_getElem (by omega)
        rw [h2, Option.bind_eq_some_iff] at h1
        obtain ⟨cs, h3, h4⟩ := h1
        exact ⟨cs, _, h3, h4⟩
      obtain ⟨cs0, y0, h3, h4⟩ := each 0 (by omega)
      obtain ⟨_, hl0, hc0⟩ := World.cells?_some h3
      have h5 := hc0 0 hn
      rw [Nat.zero_mul, List.getElem?_eq_getElem (by omega)] at h5
      have h6 : w.cell? a = some cs0[0] := by simpa [Addr.add] using h5
      obtain ⟨hs, c, T, fr, hh, _⟩ := cell_block h6
      obtain ⟨b, o, s⟩ := a
      simp only at hs hh
      subst hs
      have cell : ∀ i j, i < len → j < n → ∃ cs y, w.cells? base (Addr.add ⟨b, o, none⟩ (i * n)) n = some cs ∧ DataW.trod enc P w base spare held m e cs = some y ∧ cs.length = n ∧ c[o + i * n + j]? = cs[j]? ∧ o + i * n + j < c.size := by
        intro i j hi hj
        obtain ⟨cs, y, g1, g2⟩ := each i hi
        obtain ⟨_, g3, g4⟩ := World.cells?_some g1
        have g5 := g4 j hj
        simp only [add_mk] at g5
        have g6 : w.cell? ⟨b, o + i * n + j, none⟩ = c[o + i * n + j]? := by simp [World.cell?, hh]
        rw [g6] at g5
        refine ⟨cs, y, g1, g2, g3, g5, ?_⟩
        rw [List.getElem?_eq_getElem (by omega)] at g5
        exact (Array.getElem?_eq_some_iff.mp g5).1
      have hsz : o + len * n ≤ c.size := by
        obtain ⟨_, _, _, _, _, _, g⟩ := cell (len - 1) (n - 1) (by omega) (by omega)
        have : len * n = (len - 1) * n + n := by rw [← Nat.succ_mul]; congr 1; omega
        omega
      have hrow : ∀ i, i < len → (c.toList.drop o |>.drop (i * n)).take n = (c.toList.drop (o + i * n)).take n := fun i _ => by rw [List.drop_drop]
      refine ⟨_, (List.range len).map fun i => ((c.toList.drop o).drop (i * n)).take n, [b], rfl, .inr (.inr ⟨b, o, cap, c, T, fr, by simp, rfl, hh, ?_, by simpa using hsz, ?_, by simpa using hl⟩), ?_, ?_, ?_⟩
      · intro r hr
        simp only [List.mem_map, List.mem_range] at hr
        obtain ⟨i, hi, rfl⟩ := hr
        have : (i + 1) * n ≤ len * n := Nat.mul_le_mul_right _ hi
        rw [Nat.succ_mul] at this
        simp; omega
      · rw [chop_flat]; simp
      · intro y hy
        simp only [List.mem_singleton] at hy
        subst hy
        exact lt_of_blk hh
      · simp; omega
      · intro r hr
        simp only [List.mem_map, List.mem_range] at hr
        obtain ⟨i, hi, rfl⟩ := hr
        obtain ⟨cs, y, g1, g2, g3, _, _⟩ := cell i 0 hi hn
        refine ⟨m, y, ?_⟩
        have he : ((c.toList.drop o).drop (i * n)).take n = cs := by
          apply List.ext_getElem?
          intro j
          by_cases hj : j < n
          · obtain ⟨cs', y', g1', _, _, g4', _⟩ := cell i j hi hj
            rw [g1] at g1'
            injection g1' with g1'
            subst g1'
            rw [List.getElem?_take_of_lt hj, List.drop_drop, List.getElem?_drop, Array.getElem?_toList, g4']
          · rw [List.getElem?_eq_none (by simp; omega), List.getElem?_eq_none (by omega)]
        rw [he]; exact g2
end
end Go.Q

/- Layer 4: a log's parts, and whether two lists of texts are the same. -/
set_option linter.unusedVariables false
set_option linter.unusedSimpArgs false
namespace Go.Proofs
open Go Go.Q
theorem same_spec {w : World} {v u : Value} {a b : List (List UInt8)} {S U : List Nat} (ha : ArgAt w v 1 (a.map strV) S) (hb : ArgAt w u 1 (b.map strV) U) (hs : a.length < 2 ^ 62) {K : Value → World → Prop}
    (hK : ∀ w', Kp [] w w' → K (.bool (decide (a = b))) w') : callG Try.prog 34 #[v, u] w K := by
  refine law04_same_call ?_
  simp only [law04_same, law04_same_s4, ha.lenL, hb.lenL, bq_neq, bV_b, List.length_map]
  refine ⟨fun h => ?_, fun h => ?_⟩
  · have hne : a ≠ b := by intro he; subst he; simp at h
    have := hK w (Kp.refl _ _)
    simpa [hne] using this
  have hl : a.length = b.length := by simp at h; omega
  unfold law04_same_s3 law04_same_L2
  refine loop_inv (fun m xs w' => ∃ i, i ≤ a.length ∧ m = a.length - i ∧ xs = [v, u, .int .i64 (i : Nat)] ∧ Kp [] w w' ∧ a.take i = b.take i)
    ?_ (m := a.length) ⟨0, by omega, rfl, rfl, Kp.refl _ _, rfl⟩
  rintro m N xs w' ⟨i, hi, rfl, rfl, hk, he⟩ hN
  have ha' := ha.keep hk (by simp)
  have hb' := hb.keep hk (by simp)
  simp only [law04_same_L2F, law04_same_b1, ha'.lenL, List.length_map, bq_lss, bV_b]
  refine ⟨fun h => ?_, fun h => ?_⟩
  · have hi : i < a.length := by simpa using h
    have hiw : IntKind.i64.wrap ((i : Int) + 1) = ((i + 1 : Nat) : Int) := by rw [w64 (by omega) (by omega)]; simp
    obtain ⟨bl, o, T, c, fr, _, hh, hia, _, _, hc⟩ := ha'.at (i := i) (by simpa using hi)
    obtain ⟨bl2, o2, T2, c2, fr2, _, hh2, hia2, _, _, hc2⟩ := hb'.at (i := i) (by simp; omega)
    have h1 : c[o]? = some (.string (str a[i])) := by have := hc 0 (by omega); simpa [strV] using this
    have h2 : c2[o2]? = some (.string (str b[i])) := by have := hc2 0 (by omega); simpa [strV] using this
    simp [-getElem?_pos, -Array.getElem?_eq_getElem, -List.length_flatten, List.getElem?_cons_zero, List.getElem?_cons_succ, hia, hia2, hh, hh2, h1, h2, hiw]
    refine ⟨fun hne => ?_, fun heq => ?_⟩
    · have hab : a ≠ b := by intro h; subst h; exact hne rfl
      have := hK w'.drew hk.drew
      simpa [hab] using this
    · refine hN (a.length - (i + 1)) _ _ (by omega) ⟨i + 1, by omega, rfl, rfl, hk.drew, ?_⟩
      rw [List.take_succ_eq_append_getElem hi, List.take_succ_eq_append_getElem (by omega), he, heq]
  · have hie : i = a.length := by simp at h; omega
    subst hie
    have hab : a = b := by
      rw [List.take_length] at he
      rw [hl, List.take_length] at he
      exact he
    have := hK w' hk
    simpa [law04_same_s0, hab] using this
structure LG where
  lo : Int
  hi : Int
  turn : Int
  l : List (List UInt8)
  used : List UInt8
/-- a log at 'a', of the disk at 'b' -/
def LogIs (w : World) (a b : Nat) (g : LG) (SL : List Nat) (lv : Value) : Prop :=
  w.heap[a]? = some (.cells #[.pointer (some ⟨b, 0, none⟩), .int .i64 g.lo, .int .i64 g.hi, .int .i64 g.turn, lv, .string (str g.used)] 71) ∧ RowsAt w lv 1 (g.l.map strV) SL ∧ a ∉ SL
theorem LogIs.keep {w w' : World} {a b : Nat} {g : LG} {SL S' : List Nat} {lv : Value} (h : LogIs w a b g SL lv) (hk : Kp S' w w') (h1 : a ∉ S') (h2 : ∀ x ∈ SL, x ∉ S') : LogIs w' a b g SL lv :=
  ⟨hk.get h.1 h1, h.2.1.keep hk h2, h.2.2⟩
theorem given_spec {w : World} {a b : Nat} {g : LG} {SL : List Nat} {lv : Value} (h : LogIs w a b g SL lv) {K : Value → World → Prop} (hK : K (.bool true) w) : callG Try.prog 60 #[.pointer (some ⟨a, 0, none⟩)] w K := by
  refine wal_Log_given_call ?_
  simpa [wal_Log_given, wal_Log_given_s0, h.1] using hK
theorem Used_spec {w : World} {a b : Nat} {g : LG} {SL : List Nat} {lv : Value} (h : LogIs w a b g SL lv) {K : Value → World → Prop} (hK : K (.int .i64 g.used.length) w) : callG Try.prog 38 #[.pointer (some ⟨a, 0, none⟩)] w K := by
  refine wal_Log_Used_call ?_
  simp only [wal_Log_Used, wal_Log_Used_s0]
  refine given_spec h ?_
  simpa [h.1] using hK
theorem Clone_spec {w : World} {v : Value} {l : List (List UInt8)} {S : List Nat} (h : RowsAt w v 1 (l.map strV) S) (hl : l.length < 2 ^ 40) {K : Value → World → Prop}
    (hK : ∀ w' v' S', RowsAt w' v' 1 (l.map strV) S' → Kp [] w w' → (∀ y ∈ S', w.heap.size ≤ y) → K v' w') : callG Try.prog 63 #[v] w K := by
  refine slices_Clone_string_string_call ?_
  simp only [slices_Clone_string_string, slices_Clone_string_string_s0]
  obtain ⟨sa, sc, hv, _⟩ := h.len
  have hnil : sa = none → l = [] := by
    intro h0
    subst h0
    rcases h with ⟨_, h2, _⟩ | ⟨bl, F, T, h1, _⟩
    · simpa using h2
    · rw [h1] at hv; cases hv
  rw [hv, bq_sleql _ _ _ _ _ (by kernel_rfl)]
  simp only [bV_b]
  refine ⟨fun h0 => ?_, fun h0 => ?_⟩
  · have : l = [] := hnil (by simpa using h0)
    subst this
    exact hK w _ [] (.inl ⟨rfl, rfl, rfl⟩) (Kp.refl _ _) (by simp)
  · have hb : ∀ K : Value → World → Prop, bsl 9 1 0 (zc Try.prog 9) #[] w K = K (.slice (some ⟨w.heap.size, 0, none⟩) 0 0) (w.alloc (.cells #[] 9)) := by
      intro K
      have hr : rep (zc Try.prog 9) (0 * 1) = #[] := by simp [rep]
      unfold bsl
      rw [hr]
      rfl
    rw [hb, zc9]
    obtain ⟨w1, hw1⟩ : ∃ w1, w1 = w.alloc (.cells #[] 9) := ⟨_, rfl⟩
    have hk1 : Kp [] w w1 := by rw [hw1]; exact (Kp.refl [] w).alloc _
    have hb1 : w1.heap[w.heap.size]? = some (.cells #[] 9) := by rw [hw1]; exact heap_new
    rw [← hw1, ← hv]
    have h1 : RowsAt w1 (.slice (some ⟨w.heap.size, 0, none⟩) 0 0) 1 [] [w.heap.size] := .inr ⟨_, [], 9, rfl, rfl, hb1, by simp, rfl, by simp⟩
    have hs := (h.keep hk1 (by simp)).rd
    have hone := strV_one l
    refine rows_app (k := 1) (z := [.string ⟨#[]⟩]) (G := l.map strV) h1 (by omega) rfl (fun y hy => hs.row hy) hone (fun K' hK' => hs.src K' hK') (by simp; omega) (by simp; omega) fun v2 w2 S2 h2 hk2 hS2 => ?_
    have hsz := hk1.size
    refine hK w2 v2 S2 (by simpa using h2) (hk1.trans hk2 fun y hy hlt => by simp at hy; omega) fun y hy => ?_
    rcases hS2 y hy with h | h
    · simp at h; omega
    · omega
theorem Records_spec {w : World} {a b : Nat} {g : LG} {SL : List Nat} {lv : Value} (h : LogIs w a b g SL lv) (hl : g.l.length < 2 ^ 40) {K : Value → World → Prop}
    (hK : ∀ w' v' S', RowsAt w' v' 1 (g.l.map strV) S' → Kp [] w w' → (∀ y ∈ S', w.heap.size ≤ y) → K v' w') : callG Try.prog 37 #[.pointer (some ⟨a, 0, none⟩)] w K := by
  refine wal_Log_Records_call ?_
  simp only [wal_Log_Records, wal_Log_Records_s0]
  refine given_spec h ?_
  simp [-getElem?_pos, -Array.getElem?_eq_getElem, -List.length_flatten, List.getElem?_cons_zero, List.getElem?_cons_succ, h.1]
  exact Clone_spec h.2.1 hl hK
end Go.Proofs
