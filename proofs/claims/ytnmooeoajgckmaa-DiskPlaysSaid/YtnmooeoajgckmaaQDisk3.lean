/- Part of the proof (text QDisk3): an engine, rules or contracts of the functions; it states nothing of the claim by itself. -/
import Derived.Test.YtnmooeoajgckmaaQDisk2
/- Layer 3, the disk: Write. -/
set_option linter.unusedVariables false
set_option linter.unusedSimpArgs false
namespace Go.Proofs
open Go Go.Q
def DK.write (d : DK) (at_ : Int) (s : List UInt8) : DK × Int :=
  if (0 ≤ at_ ∧ at_ < d.now.length) ∧ s.length = 32 then
    (if d.burns.2 = true then ({ d.burns.1 with now := d.now.set at_.toNat s, l := d.l ++ [(at_.toNat, s)] }, 0) else (d.burns.1, 30))
  else (d, 1)
theorem DK.burns_now (d : DK) : d.burns.1.now = d.now ∧ d.burns.1.l = d.l ∧ d.burns.1.sure = d.sure := by
  unfold DK.burns; split <;> simp
theorem set_cells {L : List (List UInt8)} (h : ∀ x ∈ L, x.length = 32) {i : Nat} (hi : i < L.length) {s : List UInt8} (hs : s.length = 32) :
    splice (L.map u8c).flatten.toArray (i * 32) (u8c s).toArray = ((L.set i s).map u8c).flatten.toArray := by
  rw [splice_list, flat_splice (k := 32) (by intro x hx; rw [List.mem_map] at hx; obtain ⟨y, hy, rfl⟩ := hx; simp [h y hy]) (by simpa using hi) (by simp [hs])]
  congr 2
  rw [List.map_set]
  congr 1
  rw [List.drop_of_length_le (by simp [hs, h _ (List.getElem_mem hi)])]
  simp
theorem bld93 {n : Int} {cs : Array Value} (hc : cs.size = 32) {k : Value → Prop} : bld [(0, 1), (1, 32)] (zc Try.prog 93) #[(0, .int .i64 n), (1, .agg cs)] k = k (.agg (.int .i64 n :: cs.toList).toArray) := by
  have hz : (zc Try.prog 93).size = 33 := by rw [zc93]; simp
  unfold bld
  rw [fill_step (off := 0) (size := 1) rfl rfl (by omega), fill_step (off := 1) (size := 32) rfl (show (Value.agg cs).cells.size = 32 from hc) (by rw [splice_size (by simp [Value.cells, hz])]; omega)]
  have hdrop : (zc Try.prog 93).toList.drop 33 = [] := List.drop_of_length_le (by simp [hz])
  have e : splice (splice (zc Try.prog 93) 0 (Value.cells (.int .i64 n))) 1 (Value.cells (.agg cs)) = (.int .i64 n :: cs.toList).toArray := by
    simp [splice, Value.cells, hc, hdrop]
  simp only [Instr.fill, e]
theorem bsl93 {cs : Array Value} (hc : cs.size = 33) {w : World} {k : Value → World → Prop} : bsl 93 33 1 (zc Try.prog 93) #[(0, .agg cs)] w k = k (.slice (some ⟨w.heap.size, 0, none⟩) 1 1) (w.alloc (.cells cs 93)) := by
  have hr : (rep (zc Try.prog 93) (1 * 33)).size = 33 := by simp [rep]
  unfold bsl
  show (match Instr.fill (fun i => some (i * 33, 33)) (rep (zc Try.prog 93) (1 * 33)) [(0, Value.agg cs)] with | some cs => k (Value.slice (some ⟨w.heap.size, 0, none⟩) 1 1) (w.alloc (Obj.cells cs 93)) | none => False) = _
  rw [fill_step (off := 0) (size := 33) rfl (show (Value.agg cs).cells.size = 33 from hc) (by omega)]
  have hdrop : (rep (zc Try.prog 93) 33).toList.drop 33 = [] := List.drop_of_length_le (by simpa using Nat.le_of_eq hr)
  have e : splice (rep (zc Try.prog 93) (1 * 33)) 0 (Value.cells (.agg cs)) = cs := by
    simp [splice, Value.cells, hc, hdrop]
  simp only [Instr.fill, e]
theorem Write_spec {w : World} {b : Nat} {d : DK} {S : List Nat} (h : DiskAt w b d S) (hl : d.l.length < 2 ^ 40) (at_ : Int) (s : List UInt8) {K : Value → World → Prop}
    (hK : ∀ w' S', DiskAt w' b (d.write at_ s).1 S' → Kp S w w' → (∀ x ∈ S', x ∈ S ∨ w.heap.size ≤ x) → K (.int .i64 (d.write at_ s).2) w') :
    callG Try.prog 13 #[.pointer (some ⟨b, 0, none⟩), .int .i64 at_, .string (str s)] w K := by
  refine disk_Disk_Write_call ?_
  simp only [disk_Disk_Write, disk_Disk_Write_s1]
  refine has_spec h at_ ?_
  unfold DK.write at hK
  by_cases hat : (0 ≤ at_ ∧ at_ < d.now.length) ∧ s.length = 32
  case neg =>
    rw [if_neg hat] at hK
    have := hK w S h (Kp.refl _ _) (fun x hx => .inl hx)
    by_cases ha : 0 ≤ at_ ∧ at_ < d.now.length
    · have hs : ¬ s.length = 32 := fun hs => hat ⟨ha, hs⟩
      have hs' : ¬ ((s.length : Int) = 32) := by omega
      simpa [ha, hs'] using this
    · simpa [ha] using this
  case pos =>
    rw [if_pos hat] at hK
    obtain ⟨ha, hs⟩ := hat
    have hs' : ((s.length : Int) = 32) := by omega
    suffices hmain : disk_Disk_Write_s0 K (.pointer (some ⟨b, 0, none⟩)) (.int .i64 at_) (.string (str s)) w by
      simpa [ha, hs'] using hmain
    unfold disk_Disk_Write_s0
    refine burns_spec h fun w1 h1 hk1 => ?_
    obtain ⟨hnow, hlog, hsure⟩ := d.burns_now
    have hbS : b ∈ S := by obtain ⟨bs, bn, lv, SL, T, Ts, Tn, rfl, _⟩ := h; simp
    cases hb2 : d.burns.2 with
    | false =>
      rw [hb2] at hK
      have := hK w1 S h1 (hk1.mono (by simpa using fun _ => hbS)) (fun x hx => .inl hx)
      simpa using this
    | true =>
      rw [hb2] at hK
      simp only [if_true] at hK
      generalize hd1 : d.burns.1 = d1 at *
      obtain ⟨bs, bn, lv, SL, T, Ts, Tn, rfl, h1⟩ := h1
      obtain ⟨n1, n2, n3, n4, n5, n6, n7, n8, n9, n10⟩ := h1.ne
      have hlv := live_of h1.hb
      have hlvn := live_of h1.hn
      have hi : at_.toNat < d1.now.length := by rw [hnow]; omega
      have hlen := rows_len h1.ok.sz2
      have hle : at_.toNat * 32 + 32 ≤ (d1.now.map u8c).flatten.length := by rw [hlen]; omega
      have hset := set_cells h1.ok.sz2 hi hs
      have hsz2 : ∀ x ∈ d1.now.set at_.toNat s, x.length = 32 := by
        intro x hx
        rcases List.mem_or_eq_of_mem_set hx with hx | hx
        · exact h1.ok.sz2 x hx
        · rw [hx, hs]
      have hget := rows_get hsz2 (i := at_.toNat) (by simpa using hi)
      have hsget : (d1.now.set at_.toNat s).getD at_.toNat [] = s := by simp [List.getD, hi]
      have hext : (str s).extract 0 32 = str s := by
        have := ByteArray.extract_zero_size (b := str s)
        simpa [hs] using this
      have hcs : u8s (str s) = (u8c s).toArray := by rw [u8s_eq]; rfl
      have hon := one_u8c s
      have hle2 : at_.toNat * 32 + 32 ≤ ((d1.now.set at_.toNat s).map u8c).flatten.length := by rw [rows_len hsz2]; simp; omega
      have hat' : at_ < d1.now.length := by rw [hnow]; exact ha.2
      obtain ⟨N2, hN2⟩ : ∃ N2, N2 = ((d1.now.set at_.toNat s).map u8c).flatten.toArray := ⟨_, rfl⟩
      obtain ⟨N1, hN1⟩ : ∃ N1, N1 = (d1.now.map u8c).flatten.toArray := ⟨_, rfl⟩
      obtain ⟨cs, hcs2⟩ : ∃ cs, cs = (u8c s).toArray := ⟨_, rfl⟩
      have hn1 := h1.hn
      have hcsz : cs.size = 32 := by rw [hcs2]; simp [hs]
      have hN1s : at_.toNat * 32 + 32 ≤ N1.size := by rw [hN1]; exact hle
      have hN2s : at_.toNat * 32 + 32 ≤ N2.size := by rw [hN2]; exact hle2
      have hN2e : N2.extract (at_.toNat * 32) (at_.toNat * 32 + 32) = cs := by rw [hN2, extract_list, hget, hsget, hcs2]
      rw [← hcs2] at hcs hset hon
      rw [← hN1, ← hN2] at hset
      rw [← hN1] at hn1
      have hencs : encW (at_.toNat, s) = .int .i64 at_ :: cs.toList := by rw [hcs2]; simp [encW, Int.toNat_of_nonneg ha.1]
      simp [hs, ha.1, hat', h1.hb, hn1, cp, src, wrO, hext, hcs, hcsz, hN1s, hset, hN2s, hN2e, heap_self, hlv, hlvn, heap_ne n9, bld93, bsl93, heap_old]
      refine ⟨fun i hi => by rw [Array.all_eq_true] at hon; exact hon i (by omega), ?_⟩
      obtain ⟨W, hW⟩ : ∃ W, W = ((setBlk w1 bn (Obj.cells N2 Tn)).alloc (Obj.cells (Value.int IntKind.i64 at_ :: cs.toList).toArray 93)).drew := ⟨_, rfl⟩
      rw [← hW]
      have hkW : Kp [bn] w1 W := by rw [hW]; exact (((Kp.refl _ _).setBlk (.inl (by simp)) _).alloc _).drew
      have hWb := hkW.get h1.hb (by simpa using n2)
      have hWs := hkW.get h1.hs (by simpa using n4)
      have hWn : W.heap[bn]? = some (.cells N2 Tn (0, 0)) := by rw [hW]; simp only [heap_drew]; rw [heap_old (by simpa using hlvn), heap_self hlvn]
      have hWl : RowsAt W lv 33 (d1.l.map encW) SL := RowsAt.keep h1.hl hkW (fun x hx => by simp; intro hh; subst hh; exact n6 hx)
      have hWx : W.heap[w1.heap.size]? = some (.cells (encW (at_.toNat, s)).toArray 93 (0, 0)) := by
        rw [hW, hencs]; simp only [heap_drew]
        have := heap_new (w := setBlk w1 bn (Obj.cells N2 Tn)) (o := Obj.cells (Value.int IntKind.i64 at_ :: cs.toList).toArray 93)
        rw [size_setBlk] at this
        exact this
      have henl : (encW (at_.toNat, s)).length = 33 := by simp [encW, hs]
      rw [zc93]
      refine rows_app (rows := d1.l.map encW) (G := [encW (at_.toNat, s)]) hWl (by omega) (by simp) (by simpa using henl) ?_ ?_ ?_ ?_ ?_
      · have := one_u8c s
        rw [List.all_toArray] at this
        simpa [encW] using this
      · intro K' hk'
        have : (encW (at_.toNat, s)).toArray.extract 0 33 = (encW (at_.toNat, s)).toArray := by rw [← henl]; simp
        simpa [src, hWx, henl, this] using hk'
      · simp only [List.length_map, List.length_singleton, hlog]; omega
      · simp only [List.length_map, List.length_singleton, hlog]; omega
      · intro v' w' S' hr hk' hS'
        obtain ⟨a, c, hv', _⟩ := hr.len
        have hone' : one v' = true := by rw [hv']; rfl
        have hb' := hk'.get hWb n3
        have hs2 := hk'.get hWs n5
        have hn2 := hk'.get hWn n6
        have hlt : ∀ x, x ∈ b :: bs :: bn :: SL → x < w1.heap.size := by
          intro x hx
          simp only [List.mem_cons] at hx
          rcases hx with rfl | rfl | rfl | hx
          · exact hlv
          · exact live_of h1.hs
          · exact hlvn
          · exact RowsAt.lt h1.hl x hx
        have hWsz := hkW.size
        have hd' : ∀ x ∈ S', x ≠ b ∧ x ≠ bs ∧ x ≠ bn := by
          intro x hx
          rcases hS' x hx with hx | hx
          · exact ⟨fun hh => n3 (hh ▸ hx), fun hh => n5 (hh ▸ hx), fun hh => n6 (hh ▸ hx)⟩
          · have := hlt b (by simp); have := hlt bs (by simp); have := hlt bn (by simp)
            exact ⟨by omega, by omega, by omega⟩
        obtain ⟨w2, hw2⟩ : ∃ w2, w2 = setBlk w' b (.cells #[.slice (some ⟨bs, 0, none⟩) d1.now.length d1.now.length, .slice (some ⟨bn, 0, none⟩) d1.now.length d1.now.length, v', .int .i64 d1.fuse, .bool d1.off] T (0, 0)) := ⟨_, rfl⟩
        have hk2 : Kp [b] w' w2 := by rw [hw2]; exact (Kp.refl _ _).setBlk (.inl (by simp)) _
        have := hK w2 (b :: bs :: bn :: S') ⟨bs, bn, v', S', T, Ts, Tn, rfl, ?_, ?_, ?_, ?_, ?_, ?_⟩ ?_ ?_
        · simpa [hone', hb', hw2] using this
        · have := heap_self (o := .cells #[.slice (some ⟨bs, 0, none⟩) d1.now.length d1.now.length, .slice (some ⟨bn, 0, none⟩) d1.now.length d1.now.length, v', .int .i64 d1.fuse, .bool d1.off] T (0, 0)) (live_of hb')
          rw [hw2, this]; simp [hnow]
        · exact hk2.get hs2 (by simpa using n8)
        · rw [hN2, hnow] at hn2; exact hk2.get hn2 (by simpa using n9)
        · have := RowsAt.keep hr hk2 (fun x hx => by simpa using (hd' x hx).1)
          rw [hlog] at this
          simpa [LogAt] using this
        · have := hr.nodup
          simp only [List.nodup_cons, List.mem_cons, not_or]
          exact ⟨⟨n1, n2, fun hx => (hd' _ hx).1 rfl⟩, ⟨n4, fun hx => (hd' _ hx).2.1 rfl⟩, fun hx => (hd' _ hx).2.2 rfl, this⟩
        · refine ⟨by simpa [hsure, hnow] using h1.ok.len, by simpa [hnow] using h1.ok.pos, by simpa [hnow] using h1.ok.most, h1.ok.sz1, by rw [hnow] at hsz2; exact hsz2, ?_, h1.ok.f0, h1.ok.f1⟩
          intro x hx
          rw [List.mem_append] at hx
          simp only [List.length_set]
          rcases hx with hx | hx
          · have := h1.ok.szl x (by rw [hlog]; exact hx); rw [hnow] at this; exact this
          · simp only [List.mem_singleton] at hx; subst hx; exact ⟨by rw [hnow] at hi; exact hi, hs⟩
        · have e1 : Kp (b :: bs :: bn :: SL) w w1 := hk1.mono (by simp)
          have e2 : Kp (b :: bs :: bn :: SL) w1 W := hkW.mono (by simp)
          have e3 : Kp (b :: bs :: bn :: SL) W w' := hk'.mono (fun x hx _ => by simp [hx])
          have e4 : Kp (b :: bs :: bn :: SL) w' w2 := hk2.mono (by simp)
          exact ((e1.trans' e2).trans' e3).trans' e4
        · intro x hx
          simp only [List.mem_cons] at hx ⊢
          rcases hx with hx | hx | hx | hx
          · exact .inl (.inl hx)
          · exact .inl (.inr (.inl hx))
          · exact .inl (.inr (.inr (.inl hx)))
          · rcases hS' x hx with hx | hx
            · exact .inl (.inr (.inr (.inr hx)))
            · exact .inr (by have := hk1.size; omega)
end Go.Proofs
