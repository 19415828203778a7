/- Part of the proof (text QDisk4): an engine, rules or contracts of the functions; it states nothing of the claim by itself. -/
import Derived.Test.YtnmooeoajgckmaaQDisk3
/- Layer 3, the disk: Flush and Crash. -/
set_option linter.unusedVariables false
set_option linter.unusedSimpArgs false
namespace Go.Proofs
open Go Go.Q
def applyAll (L : List (List UInt8)) (l : List (Nat × List UInt8)) : List (List UInt8) := l.foldl (fun L x => L.set x.1 x.2) L
def DK.flush (d : DK) : DK × Int :=
  if d.burns.2 = true then ({ d.burns.1 with sure := applyAll d.sure d.l, l := [] }, 0) else (d.burns.1, 30)
theorem applyAll_ok {n : Nat} : ∀ {l : List (Nat × List UInt8)} {L : List (List UInt8)}, (∀ x ∈ L, x.length = 32) → (∀ x ∈ l, x.1 < n ∧ x.2.length = 32) → (∀ x ∈ applyAll L l, x.length = 32) ∧ (applyAll L l).length = L.length := by
  intro l
  induction l with
  | nil => intro L hL _; exact ⟨hL, rfl⟩
  | cons y r ih =>
    intro L hL hl
    have := ih (L := L.set y.1 y.2) (fun x hx => by
      rcases List.mem_or_eq_of_mem_set hx with hx | hx
      · exact hL x hx
      · rw [hx]; exact (hl y (by simp)).2) (fun x hx => hl x (by simp [hx]))
    exact ⟨this.1, by rw [show applyAll L (y :: r) = applyAll (L.set y.1 y.2) r from rfl, this.2]; simp⟩
/-- the sure sectors are others -/
theorem DiskIs.setSure {w : World} {b : Nat} {d : DK} {bs bn : Nat} {lv : Value} {SL : List Nat} {T Ts Tn : Nat} (h : DiskIs w b d bs bn lv SL T Ts Tn) (L : List (List UInt8)) (hL : ∀ x ∈ L, x.length = 32) (hn : L.length = d.sure.length) :
    DiskIs (setBlk w bs (.cells (L.map u8c).flatten.toArray Ts (0, 0))) b { d with sure := L } bs bn lv SL T Ts Tn ∧ Kp [bs] w (setBlk w bs (.cells (L.map u8c).flatten.toArray Ts (0, 0))) := by
  obtain ⟨n1, n2, n3, n4, n5, n6, n7, n8, n9, n10⟩ := h.ne
  have hk : Kp [bs] w (setBlk w bs (.cells (L.map u8c).flatten.toArray Ts (0, 0))) := (Kp.refl _ _).setBlk (.inl (by simp)) _
  exact ⟨⟨hk.get h.hb (by simpa using n1), heap_self (live_of h.hs), hk.get h.hn (by simpa using n10), RowsAt.keep h.hl hk (fun x hx => by simp; intro hh; subst hh; exact n5 hx), h.nd,
    ⟨by rw [hn]; exact h.ok.len, h.ok.pos, h.ok.most, hL, h.ok.sz2, h.ok.szl, h.ok.f0, h.ok.f1⟩⟩, hk⟩
theorem DiskIs.keep {w w' : World} {b : Nat} {d : DK} {bs bn : Nat} {lv : Value} {SL : List Nat} {T Ts Tn : Nat} {S' : List Nat} (h : DiskIs w b d bs bn lv SL T Ts Tn) (hk : Kp S' w w') (hd : ∀ x ∈ b :: bs :: bn :: SL, x ∉ S') :
    DiskIs w' b d bs bn lv SL T Ts Tn :=
  ⟨hk.get h.hb (hd _ (by simp)), hk.get h.hs (hd _ (by simp)), hk.get h.hn (hd _ (by simp)), RowsAt.keep h.hl hk (fun x hx => hd x (by simp [hx])), h.nd, h.ok⟩
theorem DiskIs.live {w : World} {b : Nat} {d : DK} {bs bn : Nat} {lv : Value} {SL : List Nat} {T Ts Tn : Nat} (h : DiskIs w b d bs bn lv SL T Ts Tn) : ∀ x ∈ b :: bs :: bn :: SL, x < w.heap.size := by
  intro x hx
  simp only [List.mem_cons] at hx
  rcases hx with rfl | rfl | rfl | hx
  · exact live_of h.hb
  · exact live_of h.hs
  · exact live_of h.hn
  · exact RowsAt.lt h.hl x hx
theorem take_snoc {α : Type} {l : List α} {i : Nat} (hi : i < l.length) : l.take (i + 1) = l.take i ++ [l[i]] := by
  rw [List.take_succ_eq_append_getElem hi]
theorem Flush_loop {R : Value → World → Prop} {w0 : World} {b : Nat} {d : DK} {bs bn : Nat} {lv : Value} {SL : List Nat} {T Ts Tn : Nat} (h0 : DiskIs w0 b d bs bn lv SL T Ts Tn) (hlen : d.l.length < 2 ^ 40)
    (hend : ∀ w', DiskIs w' b { d with sure := applyAll d.sure d.l } bs bn lv SL T Ts Tn → Kp [bs] w0 w' → disk_Disk_Flush_s0 R (.pointer (some ⟨b, 0, none⟩)) w') :
    disk_Disk_Flush_L2 R (.pointer (some ⟨b, 0, none⟩)) lv (.int .i64 d.l.length) (.int .i64 0) w0 := by
  unfold disk_Disk_Flush_L2
  refine loop_inv (fun m xs w => ∃ i, i ≤ d.l.length ∧ m = d.l.length - i ∧ xs = [.pointer (some ⟨b, 0, none⟩), lv, .int .i64 d.l.length, .int .i64 i] ∧
    DiskIs w b { d with sure := applyAll d.sure (d.l.take i) } bs bn lv SL T Ts Tn ∧ Kp [bs] w0 w) ?_ (m := d.l.length) ⟨0, by omega, by omega, rfl, h0, Kp.refl _ _⟩
  rintro m N xs w ⟨i, hi, rfl, rfl, h, hk⟩ hN
  simp only [disk_Disk_Flush_L2F, disk_Disk_Flush_b1, bq_lss, bV_b]
  refine ⟨fun hlt => ?_, fun hge => ?_⟩
  · have hlt : i < d.l.length := by simpa using hlt
    obtain ⟨n1, n2, n3, n4, n5, n6, n7, n8, n9, n10⟩ := h.ne
    obtain ⟨bl, TF, c, hbl, hheap, hia, hle, hext, _⟩ := RowsAt.at h.hl (i := i) (by simpa using hlt)
    have hrow : (d.l.map encW)[i]'(by simpa using hlt) = encW d.l[i] := by simp
    simp only at hia hext
    rw [hrow] at hext
    have hx := h0.ok.szl d.l[i] (List.getElem_mem hlt)
    have hin := hN (d.l.length - (i + 1)) [.pointer (some ⟨b, 0, none⟩), lv, .int .i64 d.l.length, .int .i64 ((i + 1 : Nat) : Int)]
    have hencl : (encW d.l[i]).length = 33 := by simp [encW, hx.2]
    have hext2 : ((encW d.l[i]).toArray.extract 1 33) = (u8c d.l[i].2).toArray := by
      have := extract_list (encW d.l[i]) 1 32
      rw [this]
      have h32 : (u8c d.l[i].2).take 32 = u8c d.l[i].2 := List.take_of_length_le (by simp [hx.2])
      simp [encW, h32]
    have hzsz : (zc Try.prog 93).size = 33 := by rw [zc93]; simp
    have hsp : splice (zc Try.prog 93) 0 (encW d.l[i]).toArray = (encW d.l[i]).toArray := by
      have : (zc Try.prog 93).toList.drop 33 = [] := List.drop_of_length_le (by simp [hzsz])
      simp [splice, hencl, this]
    have hone : (encW d.l[i]).toArray.all one = true := by
      have := one_u8c d.l[i].2
      rw [List.all_toArray] at this ⊢
      simpa [encW] using this
    have hgen : ∀ k, k < w.heap.size → k ≠ w.heap.size := fun k hk => by omega
    obtain ⟨E, hE⟩ : ∃ E, E = (encW d.l[i]).toArray := ⟨_, rfl⟩
    have hE0 : E[0]? = some (.int .i64 d.l[i].1) := by rw [hE]; rfl
    have hEs : E.size = 33 := by rw [hE]; simpa using hencl
    rw [← hE] at hext hext2 hsp hone
    rw [hia]
    have hlb := live_of h.hb
    have hls := live_of h.hs
    have hks : Kp [] w (w.alloc (.cells E 93)) := (Kp.refl _ _).alloc _
    have h' := h.keep hks (by simp)
    have hiw : IntKind.i64.wrap ((i : Int) + 1) = ((i + 1 : Nat) : Int) := by rw [w64 (by omega) (by omega)]; simp
    simp [-getElem?_pos, -Array.getElem?_eq_getElem, -List.length_flatten, List.getElem?_cons_zero, List.getElem?_cons_succ, hheap, hle, hext, hEs, hzsz, hone, hsp, h.hb, heap_new, heap_old, hlb, hls, hE0, hext2, hx.1, h.hs, hiw]
    refine ⟨fun j hj => by rw [Array.all_eq_true] at hone; exact hone j (by omega), ?_⟩
    have hi1 : d.l[i].1 < (applyAll d.sure (d.l.take i)).length := by have := h.ok.len; simp only at this; omega
    have hsz := h.ok.sz1
    simp only at hsz
    have hcells := set_cells hsz hi1 hx.2
    rw [hcells]
    have hL : applyAll d.sure (d.l.take (i + 1)) = (applyAll d.sure (d.l.take i)).set d.l[i].1 d.l[i].2 := by unfold applyAll; rw [take_snoc hlt, List.foldl_append]; rfl
    have hset := h'.setSure ((applyAll d.sure (d.l.take i)).set d.l[i].1 d.l[i].2) (by
      intro x hx'
      rcases List.mem_or_eq_of_mem_set hx' with hx' | hx'
      · exact hsz x hx'
      · rw [hx']; exact hx.2) (by simp)
    have hkd : ∀ w, Kp [] w w.drew := fun w => (Kp.refl _ w).drew
    refine ⟨hx.2, ⟨by rw [rows_len hsz, hx.2]; omega, by have := one_u8c d.l[i].2; rw [List.all_toArray, List.all_eq_true] at this; exact this⟩, ?_⟩
    refine hin _ (by omega) ⟨i + 1, hlt, rfl, by simp, ?_, ?_⟩
    · rw [hL]; exact hset.1.keep (hkd _) (by simp)
    · exact (hk.trans' ((hks.mono (by simp)).trans' hset.2)).drew
  · have hie : i = d.l.length := by simp at hge; omega
    subst hie
    rw [List.take_length] at h
    exact hend w h hk

theorem Flush_spec {w : World} {b : Nat} {d : DK} {S : List Nat} (h : DiskAt w b d S) (hl : d.l.length < 2 ^ 40) {K : Value → World → Prop}
    (hK : ∀ w', DiskAt w' b d.flush.1 S → Kp S w w' → K (.int .i64 d.flush.2) w') : callG Try.prog 15 #[.pointer (some ⟨b, 0, none⟩)] w K := by
  refine disk_Disk_Flush_call ?_
  simp only [disk_Disk_Flush, disk_Disk_Flush_s4]
  refine Size_spec h ?_
  have hp : d.now ≠ [] := by
    obtain ⟨bs, bn, lv, SL, T, Ts, Tn, rfl, h⟩ := h
    intro hh; have := h.ok.pos; rw [hh] at this; simp at this
  suffices hmain : callG Try.prog 45 #[.pointer (some ⟨b, 0, none⟩)] w fun t11 w =>
      qG Try.prog (Op.unary .not t11) w fun t12 => bV t12 (K (.int .i64 30) w) (disk_Disk_Flush_s3 K (.pointer (some ⟨b, 0, none⟩)) w) by
    simpa [hp] using hmain
  refine burns_spec h fun w1 h1 hk1 => ?_
  obtain ⟨hnow, hlog, hsure⟩ := d.burns_now
  unfold DK.flush at hK
  have hbS : b ∈ S := by obtain ⟨bs, bn, lv, SL, T, Ts, Tn, rfl, _⟩ := h; simp
  have hk1' : Kp S w w1 := hk1.mono (by simpa using fun _ => hbS)
  cases hb2 : d.burns.2 with
  | false =>
    rw [hb2] at hK
    have := hK w1 h1 hk1'
    simpa using this
  | true =>
    rw [hb2] at hK
    simp only [if_true] at hK
    generalize hd1 : d.burns.1 = d1 at *
    obtain ⟨bs, bn, lv, SL, T, Ts, Tn, rfl, h1⟩ := h1
    obtain ⟨a, c, hlv⟩ := LogAt.len h1.hl
    suffices hmain : disk_Disk_Flush_L2 K (.pointer (some ⟨b, 0, none⟩)) lv (.int .i64 d1.l.length) (.int .i64 0) w1 by
      rw [hlv] at hmain
      simpa [disk_Disk_Flush_s3, h1.hb, hlv] using hmain
    refine Flush_loop h1 (by rw [hlog]; exact hl) fun w2 h2 hk2 => ?_
    simp only [disk_Disk_Flush_s0]
    refine settles_spec ⟨bs, bn, lv, SL, T, Ts, Tn, rfl, h2⟩ fun w3 h3 hk3 => ?_
    refine hK w3 ?_ ((hk1'.trans' (hk2.mono (by simp))).trans' hk3)
    rw [hsure, hlog] at h3
    exact h3

/-- what survives of the writes that are not sure -/
def crashL : List (Nat × List UInt8) → List Int → List (List UInt8) → List (List UInt8)
  | [], _, L => L
  | _ :: _, [], L => L
  | x :: l, k :: ks, L => crashL l ks (L.set x.1 (x.2.take (max 0 (min k 32)).toNat ++ (L.getD x.1 []).drop (max 0 (min k 32)).toNat))
def crash1 (x : Nat × List UInt8) (k : Option Int) (L : List (List UInt8)) : List (List UInt8) :=
  match k with
  | none => L
  | some k => L.set x.1 (x.2.take (max 0 (min k 32)).toNat ++ (L.getD x.1 []).drop (max 0 (min k 32)).toNat)
theorem crashL_snoc (x : Nat × List UInt8) : ∀ (l : List (Nat × List UInt8)) (ks : List Int) (L : List (List UInt8)), crashL (l ++ [x]) ks L = crash1 x ks[l.length]? (crashL l ks L) := by
  intro l
  induction l with
  | nil => intro ks L; cases ks <;> rfl
  | cons y r ih =>
    intro ks L
    cases ks with
    | nil => rfl
    | cons k ks => simp only [List.cons_append, crashL, ih]; rfl
theorem crashL_ok {n : Nat} : ∀ {l : List (Nat × List UInt8)} {ks : List Int} {L : List (List UInt8)}, (∀ x ∈ L, x.length = 32) → L.length = n → (∀ x ∈ l, x.1 < n ∧ x.2.length = 32) → (∀ x ∈ crashL l ks L, x.length = 32) ∧ (crashL l ks L).length = n := by
  intro l
  induction l with
  | nil => intro ks L hL hn _; exact ⟨hL, hn⟩
  | cons y r ih =>
    intro ks L hL hn hl
    cases ks with
    | nil => exact ⟨hL, hn⟩
    | cons k ks =>
      have hy := hl y (by simp)
      refine ih (fun x hx => ?_) (by simpa using hn) (fun x hx => hl x (by simp [hx]))
      rcases List.mem_or_eq_of_mem_set hx with hx | hx
      · exact hL x hx
      · have hg : (L.getD y.1 []).length = 32 := by
          have : y.1 < L.length := by omega
          simp only [List.getD, List.getElem?_eq_getElem this, Option.getD_some]
          exact hL _ (List.getElem_mem this)
        have hle : (max 0 (min k 32)).toNat ≤ 32 := by omega
        rw [hx, List.length_append, List.length_take, List.length_drop, hg, hy.2]; omega
def DK.crash (d : DK) (ks : List Int) : DK := { sure := crashL d.l ks d.sure, now := crashL d.l ks d.sure, l := [], fuse := -1, off := false }
end Go.Proofs
