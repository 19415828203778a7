/- Part of the proof (R6): an engine, rules or contracts of the functions; it states nothing of the claim by itself. -/
import Derived.Test.YthalloeiidpfeaaGreatR5
import Derived.Test.YthalloeiidpfeaaGreatR3
import Derived.Test.YthalloeiidpfeaaGreatR1
import Derived.Test.YthalloeiidpfeaaGreatR4
import Derived.Laws.Slices
import Derived.Lib.MakeNoZero

set_option linter.unusedVariables false
set_option linter.unusedSimpArgs false
namespace Go.Proofs
open Go Go.Q
open Tryz (prog)
theorem zc56 : zc prog 54 = #[.slice none 0 0, .slice none 0 0, .slice none 0 0, .int .i64 0, .bool false] := by kernel_rfl
def secs0 (n : Nat) : List (List UInt8) := List.replicate n (List.replicate 32 0)
def DK.fresh (n : Nat) : DK := { sure := secs0 n, now := secs0 n, l := [], fuse := -1, off := false }
theorem secs0_cells (n : Nat) : rep (zc prog 93) (n * 32) = ((secs0 n).map u8c).flatten.toArray := by
  rw [zc91, rep_rows (k := 32) (by simp) (by omega)]
  simp [secs0, u8c]
theorem fresh_ok {n : Nat} (h1 : 1 ≤ n) (h2 : n ≤ 4096) : (DK.fresh n).Ok :=
  ⟨rfl, by simp [DK.fresh, secs0]; omega, by simp [DK.fresh, secs0]; omega, by intro x hx; simp only [DK.fresh, secs0, List.mem_replicate] at hx; rw [hx.2]; simp,
   by intro x hx; simp only [DK.fresh, secs0, List.mem_replicate] at hx; rw [hx.2]; simp, by simp [DK.fresh], by simp [DK.fresh], by simp [DK.fresh]⟩
theorem New_ok {w : World} {n : Nat} (h1 : 1 ≤ n) (h2 : n ≤ 4096) {K : KW}
    (hK : ∀ w' b S, DiskAt w' b (DK.fresh n) S → Kp [] w w' → (∀ x ∈ S, w.heap.size ≤ x) → K (.tuple #[.pointer (some ⟨b, 0, none⟩), .int .i64 0]) w') : callG prog 10 #[.int .i64 n] w K := by
  refine Fn14_call ?_
  have ha : ¬ ((n : Int) < 1) := by omega
  have hb : ¬ ((4096 : Int) < n) := by omega
  have hn1 : ((n : Int)).toNat = n := by omega
  have hlen : (DK.fresh n).now.length = n := by simp [DK.fresh, secs0]
  have one : ∀ bs bn, ((bs = w.heap.size ∧ bn = w.heap.size + 1) ∨ (bs = w.heap.size + 1 ∧ bn = w.heap.size)) →
      K (.tuple #[.pointer (some ⟨w.heap.size + 2, 0, none⟩), .int .i64 0]) ((((w.alloc (.cells ((secs0 n).map u8c).flatten.toArray 93)).alloc (.cells ((secs0 n).map u8c).flatten.toArray 93)).alloc
        (.cells #[.slice (some ⟨bs, 0, none⟩) n n, .slice (some ⟨bn, 0, none⟩) n n, .slice none 0 0, .int .i64 (-1), .bool false] 54)).drew) := by
    intro bs bn hbb
    refine hK _ _ [w.heap.size + 2, bs, bn] ⟨bs, bn, .slice none 0 0, [], 54, 93, 93, rfl, ?_, ?_, ?_, .inl ⟨rfl, rfl, rfl⟩, ?_, fresh_ok h1 h2⟩ ?_ ?_
    · rw [hlen]; simp only [heap_drew, heap_alloc, World.size_alloc]; (repeat (first | rw [if_pos (by first | trivial | omega)] | rw [if_neg (by omega)])); rfl
    · rcases hbb with ⟨rfl, rfl⟩ | ⟨rfl, rfl⟩ <;> simp only [heap_drew, heap_alloc, World.size_alloc] <;> (repeat (first | rw [if_pos (by first | trivial | omega)] | rw [if_neg (by omega)])) <;> rfl
    · rcases hbb with ⟨rfl, rfl⟩ | ⟨rfl, rfl⟩ <;> simp only [heap_drew, heap_alloc, World.size_alloc] <;> (repeat (first | rw [if_pos (by first | trivial | omega)] | rw [if_neg (by omega)])) <;> rfl
    · rcases hbb with ⟨rfl, rfl⟩ | ⟨rfl, rfl⟩ <;> simp
    · exact ((((Kp.refl _ _).alloc _).alloc _).alloc _).drew
    · intro x hx
      simp only [List.mem_cons, List.not_mem_nil, or_false] at hx
      rcases hbb with ⟨rfl, rfl⟩ | ⟨rfl, rfl⟩ <;> rcases hx with hx | hx | hx <;> omega
  have hone := one w.heap.size (w.heap.size + 1) (.inl ⟨rfl, rfl⟩)
  have htwo := one (w.heap.size + 1) w.heap.size (.inr ⟨rfl, rfl⟩)
  have hb2 : (32 : Int) * n ≤ 281474976710656 := by omega
  have hb3 : (n : Int) < 9223372036854775808 := by omega
  have hb0 : (0 : Int) ≤ n := by omega
  simp [Fn14, Fn14_s0, ha, hb, mkG, hb2, hb3, hn1, secs0_cells, zc56, bld, Instr.fill, Value.cells]
  exact ⟨hone, htwo⟩
end Go.Proofs

set_option linter.unusedVariables false
set_option linter.unusedSimpArgs false
namespace Go.Proofs
open Go Go.Q
open Tryz (prog)
def DK.write (d : DK) (at_ : Int) (s : List UInt8) : DK × Int :=
  if (0 ≤ at_ ∧ at_ < d.now.length) ∧ s.length = 32 then
    (if d.burns.2 = true then ({ d.burns.1 with now := d.now.set at_.toNat s, l := d.l ++ [(at_.toNat, s)] }, 0) else (d.burns.1, 30))
  else (d, 1)
theorem DK.burns_now (d : DK) : d.burns.1.now = d.now ∧ d.burns.1.l = d.l ∧ d.burns.1.sure = d.sure := by
  unfold DK.burns; split <;> simp
theorem set_cells {L : List (List UInt8)} (h : ∀ x ∈ L, x.length = 32) {i : Nat} (hi : i < L.length) {s : List UInt8} (hs : s.length = 32) :
    splice (L.map u8c).flatten.toArray (i * 32) (u8c s).toArray = ((L.set i s).map u8c).flatten.toArray := by
  rw [splice_list, flat_splice (k := 32) (by intro x hx; rw [List.mem_map] at hx; obtain ⟨y, hy, rfl⟩ := hx; simp [h y hy]) (by simpa using hi) (by simp [hs])]
  congr 2
  rw [List.map_set]
  congr 1
  rw [List.drop_of_length_le (by simp [hs, h _ (List.getElem_mem hi)])]
  simp
theorem bld93 {n : Int} {cs : Array Value} (hc : cs.size = 32) {k : Value → Prop} : bld [(0, 1), (1, 32)] (zc prog 95) #[(0, .int .i64 n), (1, .agg cs)] k = k (.agg (.int .i64 n :: cs.toList).toArray) := by
  have hz : (zc prog 95).size = 33 := by rw [zc93]; simp
  unfold bld
  rw [fill_step (off := 0) (size := 1) rfl rfl (by omega), fill_step (off := 1) (size := 32) rfl (show (Value.agg cs).cells.size = 32 from hc) (by rw [splice_size (by simp [Value.cells, hz])]; omega)]
  have hdrop : (zc prog 95).toList.drop 33 = [] := List.drop_of_length_le (by simp [hz])
  have e : splice (splice (zc prog 95) 0 (Value.cells (.int .i64 n))) 1 (Value.cells (.agg cs)) = (.int .i64 n :: cs.toList).toArray := by
    simp [splice, Value.cells, hc, hdrop]
  simp only [Instr.fill, e]
theorem bsl93 {cs : Array Value} (hc : cs.size = 33) {w : World} {k : KW} : bsl 95 33 1 (zc prog 95) #[(0, .agg cs)] w k = k (.slice (some ⟨w.heap.size, 0, none⟩) 1 1) (w.alloc (.cells cs 95)) := by
  have hr : (rep (zc prog 95) (1 * 33)).size = 33 := by simp [rep]
  unfold bsl
  show (match Instr.fill (fun i => some (i * 33, 33)) (rep (zc prog 95) (1 * 33)) [(0, Value.agg cs)] with | some cs => k (Value.slice (some ⟨w.heap.size, 0, none⟩) 1 1) (w.alloc (Obj.cells cs 95)) | none => False) = _
  rw [fill_step (off := 0) (size := 33) rfl (show (Value.agg cs).cells.size = 33 from hc) (by omega)]
  have hdrop : (rep (zc prog 95) 33).toList.drop 33 = [] := List.drop_of_length_le (by simpa using Nat.le_of_eq hr)
  have e : splice (rep (zc prog 95) (1 * 33)) 0 (Value.cells (.agg cs)) = cs := by
    simp [splice, Value.cells, hc, hdrop]
  simp only [Instr.fill, e]
theorem Write_spec {w : World} {b : Nat} {d : DK} {S : List Nat} (h : DiskAt w b d S) (hl : d.l.length < 2 ^ 40) (at_ : Int) (s : List UInt8) {K : KW}
    (hK : ∀ w' S', DiskAt w' b (d.write at_ s).1 S' → Kp S w w' → (∀ x ∈ S', x ∈ S ∨ w.heap.size ≤ x) → K (.int .i64 (d.write at_ s).2) w') :
    callG prog 90 #[.pointer (some ⟨b, 0, none⟩), .int .i64 at_, .string (str s)] w K := by
  refine Fn10_call ?_
  simp only [Fn10, Fn10_s1]
  refine has_spec h at_ ?_
  unfold DK.write at hK
  by_cases hat : (0 ≤ at_ ∧ at_ < d.now.length) ∧ s.length = 32
  case neg =>
    rw [if_neg hat] at hK
    have := hK w S h (Kp.refl _ _) (fun x hx => .inl hx)
    by_cases ha : 0 ≤ at_ ∧ at_ < d.now.length
    · have hs : ¬ s.length = 32 := fun hs => hat ⟨ha, hs⟩
      have hs' : ¬ ((s.length : Int) = 32) := by omega
      simpa [ha, hs'] using this
    · simpa [ha] using this
  case pos =>
    rw [if_pos hat] at hK
    obtain ⟨ha, hs⟩ := hat
    have hs' : ((s.length : Int) = 32) := by omega
    suffices hmain : Fn10_s0 K (.pointer (some ⟨b, 0, none⟩)) (.int .i64 at_) (.string (str s)) w by
      simpa [ha, hs'] using hmain
    unfold Fn10_s0
    refine burns_spec h fun w1 h1 hk1 => ?_
    obtain ⟨hnow, hlog, hsure⟩ := d.burns_now
    have hbS : b ∈ S := by obtain ⟨bs, bn, lv, SL, T, Ts, Tn, rfl, _⟩ := h; simp
    cases hb2 : d.burns.2 with
    | false =>
      rw [hb2] at hK
      have := hK w1 S h1 (hk1.mono (by simpa using fun _ => hbS)) (fun x hx => .inl hx)
      simpa using this
    | true =>
      rw [hb2] at hK
      simp only [if_true] at hK
      generalize hd1 : d.burns.1 = d1 at *
      obtain ⟨bs, bn, lv, SL, T, Ts, Tn, rfl, h1⟩ := h1
      obtain ⟨n1, n2, n3, n4, n5, n6, n7, n8, n9, n10⟩ := h1.ne
      have hlv := live_of h1.hb
      have hlvn := live_of h1.hn
      have hi : at_.toNat < d1.now.length := by rw [hnow]; omega
      have hlen := rows_len h1.ok.sz2
      have hle : at_.toNat * 32 + 32 ≤ (d1.now.map u8c).flatten.length := by rw [hlen]; omega
      have hset := set_cells h1.ok.sz2 hi hs
      have hsz2 : ∀ x ∈ d1.now.set at_.toNat s, x.length = 32 := by
        intro x hx
        rcases List.mem_or_eq_of_mem_set hx with hx | hx
        · exact h1.ok.sz2 x hx
        · rw [hx, hs]
      have hget := rows_get hsz2 (i := at_.toNat) (by simpa using hi)
      have hsget : (d1.now.set at_.toNat s).getD at_.toNat [] = s := by simp [List.getD, hi]
      have hext : (str s).extract 0 32 = str s := by
        have := ByteArray.extract_zero_size (b := str s)
        simpa [hs] using this
      have hcs : u8s (str s) = (u8c s).toArray := by rw [u8s_eq]; rfl
      have hon := one_u8c s
      have hle2 : at_.toNat * 32 + 32 ≤ ((d1.now.set at_.toNat s).map u8c).flatten.length := by rw [rows_len hsz2]; simp; omega
      have hat' : at_ < d1.now.length := by rw [hnow]; exact ha.2
      obtain ⟨N2, hN2⟩ : ∃ N2, N2 = ((d1.now.set at_.toNat s).map u8c).flatten.toArray := ⟨_, rfl⟩
      obtain ⟨N1, hN1⟩ : ∃ N1, N1 = (d1.now.map u8c).flatten.toArray := ⟨_, rfl⟩
      obtain ⟨cs, hcs2⟩ : ∃ cs, cs = (u8c s).toArray := ⟨_, rfl⟩
      have hn1 := h1.hn
      have hcsz : cs.size = 32 := by rw [hcs2]; simp [hs]
      have hN1s : at_.toNat * 32 + 32 ≤ N1.size := by rw [hN1]; exact hle
      have hN2s : at_.toNat * 32 + 32 ≤ N2.size := by rw [hN2]; exact hle2
      have hN2e : N2.extract (at_.toNat * 32) (at_.toNat * 32 + 32) = cs := by rw [hN2, extract_list, hget, hsget, hcs2]
      rw [← hcs2] at hcs hset hon
      rw [← hN1, ← hN2] at hset
      rw [← hN1] at hn1
      have hencs : encW (at_.toNat, s) = .int .i64 at_ :: cs.toList := by rw [hcs2]; simp [encW, Int.toNat_of_nonneg ha.1]
      simp [hs, ha.1, hat', h1.hb, hn1, cp, src, wrO, hext, hcs, hcsz, hN1s, hset, hN2s, hN2e, heap_self, hlv, hlvn, heap_ne n9, bld93, bsl93, heap_old]
      refine ⟨fun i hi => by rw [Array.all_eq_true] at hon; exact hon i (by omega), ?_⟩
      obtain ⟨W, hW⟩ : ∃ W, W = ((setBlk w1 bn (Obj.cells N2 Tn)).alloc (Obj.cells (Value.int IntKind.i64 at_ :: cs.toList).toArray 95)).drew := ⟨_, rfl⟩
      rw [← hW]
      have hkW : Kp [bn] w1 W := by rw [hW]; exact (((Kp.refl _ _).setBlk (.inl (by simp)) _).alloc _).drew
      have hWb := hkW.get h1.hb (by simpa using n2)
      have hWs := hkW.get h1.hs (by simpa using n4)
      have hWn : W.heap[bn]? = some (.cells N2 Tn (0, 0)) := by rw [hW]; simp only [heap_drew]; rw [heap_old (by simpa using hlvn), heap_self hlvn]
      have hWl : RowsAt W lv 33 (d1.l.map encW) SL := RowsAt.keep h1.hl hkW (fun x hx => by simp; intro hh; subst hh; exact n6 hx)
      have hWx : W.heap[w1.heap.size]? = some (.cells (encW (at_.toNat, s)).toArray 95 (0, 0)) := by
        rw [hW, hencs]; simp only [heap_drew]
        have := heap_new (w := setBlk w1 bn (Obj.cells N2 Tn)) (o := Obj.cells (Value.int IntKind.i64 at_ :: cs.toList).toArray 95)
        rw [size_setBlk] at this
        exact this
      have henl : (encW (at_.toNat, s)).length = 33 := by simp [encW, hs]
      rw [zc93]
      refine rows_app (rows := d1.l.map encW) (G := [encW (at_.toNat, s)]) hWl (by omega) (by simp) (by simpa using henl) ?_ ?_ ?_ ?_ ?_
      · have := one_u8c s
        rw [List.all_toArray] at this
        simpa [encW] using this
      · intro K' hk'
        have : (encW (at_.toNat, s)).toArray.extract 0 33 = (encW (at_.toNat, s)).toArray := by rw [← henl]; simp
        simpa [srcA, hWx, henl, this] using hk'
      · simp only [List.length_map, List.length_singleton, hlog]; omega
      · simp only [List.length_map, List.length_singleton, hlog]; omega
      · intro v' w' S' hr hk' hS'
        obtain ⟨a, c, hv', _⟩ := hr.len
        have hone' : one v' = true := by rw [hv']; rfl
        have hb' := hk'.get hWb n3
        have hs2 := hk'.get hWs n5
        have hn2 := hk'.get hWn n6
        have hlt : ∀ x, x ∈ b :: bs :: bn :: SL → x < w1.heap.size := by
          intro x hx
          simp only [List.mem_cons] at hx
          rcases hx with rfl | rfl | rfl | hx
          · exact hlv
          · exact live_of h1.hs
          · exact hlvn
          · exact RowsAt.lt h1.hl x hx
        have hWsz := hkW.size
        have hd' : ∀ x ∈ S', x ≠ b ∧ x ≠ bs ∧ x ≠ bn := by
          intro x hx
          rcases hS' x hx with hx | hx
          · exact ⟨fun hh => n3 (hh ▸ hx), fun hh => n5 (hh ▸ hx), fun hh => n6 (hh ▸ hx)⟩
          · have := hlt b (by simp); have := hlt bs (by simp); have := hlt bn (by simp)
            exact ⟨by omega, by omega, by omega⟩
        obtain ⟨w2, hw2⟩ : ∃ w2, w2 = setBlk w' b (.cells #[.slice (some ⟨bs, 0, none⟩) d1.now.length d1.now.length, .slice (some ⟨bn, 0, none⟩) d1.now.length d1.now.length, v', .int .i64 d1.fuse, .bool d1.off] T (0, 0)) := ⟨_, rfl⟩
        have hk2 : Kp [b] w' w2 := by rw [hw2]; exact (Kp.refl _ _).setBlk (.inl (by simp)) _
        have := hK w2 (b :: bs :: bn :: S') ⟨bs, bn, v', S', T, Ts, Tn, rfl, ?_, ?_, ?_, ?_, ?_, ?_⟩ ?_ ?_
        · simpa [hone', hb', hw2] using this
        · have := heap_self (o := .cells #[.slice (some ⟨bs, 0, none⟩) d1.now.length d1.now.length, .slice (some ⟨bn, 0, none⟩) d1.now.length d1.now.length, v', .int .i64 d1.fuse, .bool d1.off] T (0, 0)) (live_of hb')
          rw [hw2, this]; simp [hnow]
        · exact hk2.get hs2 (by simpa using n8)
        · rw [hN2, hnow] at hn2; exact hk2.get hn2 (by simpa using n9)
        · have := RowsAt.keep hr hk2 (fun x hx => by simpa using (hd' x hx).1)
          rw [hlog] at this
          simpa [LogAt] using this
        · have := hr.nodup
          simp only [List.nodup_cons, List.mem_cons, not_or]
          exact ⟨⟨n1, n2, fun hx => (hd' _ hx).1 rfl⟩, ⟨n4, fun hx => (hd' _ hx).2.1 rfl⟩, fun hx => (hd' _ hx).2.2 rfl, this⟩
        · refine ⟨by simpa [hsure, hnow] using h1.ok.len, by simpa [hnow] using h1.ok.pos, by simpa [hnow] using h1.ok.most, h1.ok.sz1, by rw [hnow] at hsz2; exact hsz2, ?_, h1.ok.f0, h1.ok.f1⟩
          intro x hx
          rw [List.mem_append] at hx
          simp only [List.length_set]
          rcases hx with hx | hx
          · have := h1.ok.szl x (by rw [hlog]; exact hx); rw [hnow] at this; exact this
          · simp only [List.mem_singleton] at hx; subst hx; exact ⟨by rw [hnow] at hi; exact hi, hs⟩
        · have e1 : Kp (b :: bs :: bn :: SL) w w1 := hk1.mono (by simp)
          have e2 : Kp (b :: bs :: bn :: SL) w1 W := hkW.mono (by simp)
          have e3 : Kp (b :: bs :: bn :: SL) W w' := hk'.mono (fun x hx _ => by simp [hx])
          have e4 : Kp (b :: bs :: bn :: SL) w' w2 := hk2.mono (by simp)
          exact ((e1.trans' e2).trans' e3).trans' e4
        · intro x hx
          simp only [List.mem_cons] at hx ⊢
          rcases hx with hx | hx | hx | hx
          · exact .inl (.inl hx)
          · exact .inl (.inr (.inl hx))
          · exact .inl (.inr (.inr (.inl hx)))
          · rcases hS' x hx with hx | hx
            · exact .inl (.inr (.inr (.inr hx)))
            · exact .inr (by have := hk1.size; omega)
end Go.Proofs

set_option linter.unusedVariables false
set_option linter.unusedSimpArgs false
namespace Go.Proofs
open Go Go.Q
open Tryz (prog)
def applyAll (L : List (List UInt8)) (l : List (Nat × List UInt8)) : List (List UInt8) := l.foldl (fun L x => L.set x.1 x.2) L
def DK.flush (d : DK) : DK × Int :=
  if d.burns.2 = true then ({ d.burns.1 with sure := applyAll d.sure d.l, l := [] }, 0) else (d.burns.1, 30)
theorem DiskIs.setSure {w : World} {b : Nat} {d : DK} {bs bn : Nat} {lv : Value} {SL : List Nat} {T Ts Tn : Nat} (h : DiskIs w b d bs bn lv SL T Ts Tn) (L : List (List UInt8)) (hL : ∀ x ∈ L, x.length = 32) (hn : L.length = d.sure.length) :
    DiskIs (setBlk w bs (.cells (L.map u8c).flatten.toArray Ts (0, 0))) b { d with sure := L } bs bn lv SL T Ts Tn ∧ Kp [bs] w (setBlk w bs (.cells (L.map u8c).flatten.toArray Ts (0, 0))) := by
  obtain ⟨n1, n2, n3, n4, n5, n6, n7, n8, n9, n10⟩ := h.ne
  have hk : Kp [bs] w (setBlk w bs (.cells (L.map u8c).flatten.toArray Ts (0, 0))) := (Kp.refl _ _).setBlk (.inl (by simp)) _
  exact ⟨⟨hk.get h.hb (by simpa using n1), heap_self (live_of h.hs), hk.get h.hn (by simpa using n10), RowsAt.keep h.hl hk (fun x hx => by simp; intro hh; subst hh; exact n5 hx), h.nd,
    ⟨by rw [hn]; exact h.ok.len, h.ok.pos, h.ok.most, hL, h.ok.sz2, h.ok.szl, h.ok.f0, h.ok.f1⟩⟩, hk⟩
theorem DiskIs.keep {w w' : World} {b : Nat} {d : DK} {bs bn : Nat} {lv : Value} {SL : List Nat} {T Ts Tn : Nat} {S' : List Nat} (h : DiskIs w b d bs bn lv SL T Ts Tn) (hk : Kp S' w w') (hd : ∀ x ∈ b :: bs :: bn :: SL, x ∉ S') :
    DiskIs w' b d bs bn lv SL T Ts Tn :=
  ⟨hk.get h.hb (hd _ (by simp)), hk.get h.hs (hd _ (by simp)), hk.get h.hn (hd _ (by simp)), RowsAt.keep h.hl hk (fun x hx => hd x (by simp [hx])), h.nd, h.ok⟩
theorem DiskIs.live {w : World} {b : Nat} {d : DK} {bs bn : Nat} {lv : Value} {SL : List Nat} {T Ts Tn : Nat} (h : DiskIs w b d bs bn lv SL T Ts Tn) : ∀ x ∈ b :: bs :: bn :: SL, x < w.heap.size := by
  intro x hx
  simp only [List.mem_cons] at hx
  rcases hx with rfl | rfl | rfl | hx
  · exact live_of h.hb
  · exact live_of h.hs
  · exact live_of h.hn
  · exact RowsAt.lt h.hl x hx
theorem take_snoc {α : Type} {l : List α} {i : Nat} (hi : i < l.length) : l.take (i + 1) = l.take i ++ [l[i]] := by
  rw [List.take_succ_eq_append_getElem hi]
theorem Flush_loop {R : KW} {w0 : World} {b : Nat} {d : DK} {bs bn : Nat} {lv : Value} {SL : List Nat} {T Ts Tn : Nat} (h0 : DiskIs w0 b d bs bn lv SL T Ts Tn) (hlen : d.l.length < 2 ^ 40)
    (hend : ∀ w', DiskIs w' b { d with sure := applyAll d.sure d.l } bs bn lv SL T Ts Tn → Kp [bs] w0 w' → Fn6_s0 R (.pointer (some ⟨b, 0, none⟩)) w') :
    Fn6_L2 R (.pointer (some ⟨b, 0, none⟩)) lv (.int .i64 d.l.length) (.int .i64 0) w0 := by
  unfold Fn6_L2
  refine loop_inv (fun m xs w => ∃ i, i ≤ d.l.length ∧ m = d.l.length - i ∧ xs = [.pointer (some ⟨b, 0, none⟩), lv, .int .i64 d.l.length, .int .i64 i] ∧
    DiskIs w b { d with sure := applyAll d.sure (d.l.take i) } bs bn lv SL T Ts Tn ∧ Kp [bs] w0 w) ?_ (m := d.l.length) ⟨0, by omega, by omega, rfl, h0, Kp.refl _ _⟩
  rintro m N xs w ⟨i, hi, rfl, rfl, h, hk⟩ hN
  simp only [Fn6_L2F, Fn6_b1, bq_lss, bV_b]
  refine ⟨fun hlt => ?_, fun hge => ?_⟩
  · have hlt : i < d.l.length := by simpa using hlt
    obtain ⟨n1, n2, n3, n4, n5, n6, n7, n8, n9, n10⟩ := h.ne
    obtain ⟨bl, TF, c, hbl, hheap, hia, hle, hext, _⟩ := RowsAt.at h.hl (i := i) (by simpa using hlt)
    have hrow : (d.l.map encW)[i]'(by simpa using hlt) = encW d.l[i] := by simp
    simp only at hia hext
    rw [hrow] at hext
    have hx := h0.ok.szl d.l[i] (List.getElem_mem hlt)
    have hin := hN (d.l.length - (i + 1)) [.pointer (some ⟨b, 0, none⟩), lv, .int .i64 d.l.length, .int .i64 ((i + 1 : Nat) : Int)]
    have hencl : (encW d.l[i]).length = 33 := by simp [encW, hx.2]
    have hext2 : ((encW d.l[i]).toArray.extract 1 33) = (u8c d.l[i].2).toArray := by
      have := extract_list (encW d.l[i]) 1 32
      rw [this]
      have h32 : (u8c d.l[i].2).take 32 = u8c d.l[i].2 := List.take_of_length_le (by simp [hx.2])
      simp [encW, h32]
    have hzsz : (zc prog 95).size = 33 := by rw [zc93]; simp
    have hsp : splice (zc prog 95) 0 (encW d.l[i]).toArray = (encW d.l[i]).toArray := by
      have : (zc prog 95).toList.drop 33 = [] := List.drop_of_length_le (by simp [hzsz])
      simp [splice, hencl, this]
    have hone : (encW d.l[i]).toArray.all one = true := by
      have := one_u8c d.l[i].2
      rw [List.all_toArray] at this ⊢
      simpa [encW] using this
    have hgen : ∀ k, k < w.heap.size → k ≠ w.heap.size := fun k hk => by omega
    obtain ⟨E, hE⟩ : ∃ E, E = (encW d.l[i]).toArray := ⟨_, rfl⟩
    have hE0 : E[0]? = some (.int .i64 d.l[i].1) := by rw [hE]; rfl
    have hEs : E.size = 33 := by rw [hE]; simpa using hencl
    rw [← hE] at hext hext2 hsp hone
    rw [hia]
    have hlb := live_of h.hb
    have hls := live_of h.hs
    have hks : Kp [] w (w.alloc (.cells E 95)) := (Kp.refl _ _).alloc _
    have h' := h.keep hks (by simp)
    have hiw : IntKind.i64.wrap ((i : Int) + 1) = ((i + 1 : Nat) : Int) := by rw [w64 (by omega) (by omega)]; simp
    simp [-getElem?_pos, -Array.getElem?_eq_getElem, -List.length_flatten, gz0, gz1, hheap, hle, hext, hEs, hzsz, hone, hsp, h.hb, heap_new, heap_old, hlb, hls, hE0, hext2, hx.1, h.hs, hiw]
    refine ⟨fun j hj => by rw [Array.all_eq_true] at hone; exact hone j (by omega), ?_⟩
    have hi1 : d.l[i].1 < (applyAll d.sure (d.l.take i)).length := by have := h.ok.len; simp only at this; omega
    have hsz := h.ok.sz1
    simp only at hsz
    have hcells := set_cells hsz hi1 hx.2
    rw [hcells]
    have hL : applyAll d.sure (d.l.take (i + 1)) = (applyAll d.sure (d.l.take i)).set d.l[i].1 d.l[i].2 := by unfold applyAll; rw [take_snoc hlt, List.foldl_append]; rfl
    have hset := h'.setSure ((applyAll d.sure (d.l.take i)).set d.l[i].1 d.l[i].2) (by
      intro x hx'
      rcases List.mem_or_eq_of_mem_set hx' with hx' | hx'
      · exact hsz x hx'
      · rw [hx']; exact hx.2) (by simp)
    have hkd : ∀ w, Kp [] w w.drew := fun w => (Kp.refl _ w).drew
    refine ⟨hx.2, ⟨by rw [rows_len hsz, hx.2]; omega, by have := one_u8c d.l[i].2; rw [List.all_toArray, List.all_eq_true] at this; exact this⟩, ?_⟩
    refine hin _ (by omega) ⟨i + 1, hlt, rfl, by simp, ?_, ?_⟩
    · rw [hL]; exact hset.1.keep (hkd _) (by simp)
    · exact (hk.trans' ((hks.mono (by simp)).trans' hset.2)).drew
  · have hie : i = d.l.length := by simp at hge; omega
    subst hie
    rw [List.take_length] at h
    exact hend w h hk
theorem Flush_spec {w : World} {b : Nat} {d : DK} {S : List Nat} (h : DiskAt w b d S) (hl : d.l.length < 2 ^ 40) {K : KW}
    (hK : ∀ w', DiskAt w' b d.flush.1 S → Kp S w w' → K (.int .i64 d.flush.2) w') : callG prog 91 #[.pointer (some ⟨b, 0, none⟩)] w K := by
  refine Fn6_call ?_
  simp only [Fn6, Fn6_s4]
  refine Size_spec h ?_
  have hp : d.now ≠ [] := by
    obtain ⟨bs, bn, lv, SL, T, Ts, Tn, rfl, h⟩ := h
    intro hh; have := h.ok.pos; rw [hh] at this; simp at this
  suffices hmain : callG prog 117 #[.pointer (some ⟨b, 0, none⟩)] w fun t11 w =>
      qG prog (Op.unary .not t11) w fun t12 => bV t12 (K (.int .i64 30) w) (Fn6_s3 K (.pointer (some ⟨b, 0, none⟩)) w) by
    simpa [hp] using hmain
  refine burns_spec h fun w1 h1 hk1 => ?_
  obtain ⟨hnow, hlog, hsure⟩ := d.burns_now
  unfold DK.flush at hK
  have hbS : b ∈ S := by obtain ⟨bs, bn, lv, SL, T, Ts, Tn, rfl, _⟩ := h; simp
  have hk1' : Kp S w w1 := hk1.mono (by simpa using fun _ => hbS)
  cases hb2 : d.burns.2 with
  | false =>
    rw [hb2] at hK
    have := hK w1 h1 hk1'
    simpa using this
  | true =>
    rw [hb2] at hK
    simp only [if_true] at hK
    generalize hd1 : d.burns.1 = d1 at *
    obtain ⟨bs, bn, lv, SL, T, Ts, Tn, rfl, h1⟩ := h1
    obtain ⟨a, c, hlv⟩ := LogAt.len h1.hl
    suffices hmain : Fn6_L2 K (.pointer (some ⟨b, 0, none⟩)) lv (.int .i64 d1.l.length) (.int .i64 0) w1 by
      rw [hlv] at hmain
      simpa [Fn6_s3, h1.hb, hlv] using hmain
    refine Flush_loop h1 (by rw [hlog]; exact hl) fun w2 h2 hk2 => ?_
    simp only [Fn6_s0]
    refine settles_spec ⟨bs, bn, lv, SL, T, Ts, Tn, rfl, h2⟩ fun w3 h3 hk3 => ?_
    refine hK w3 ?_ ((hk1'.trans' (hk2.mono (by simp))).trans' hk3)
    rw [hsure, hlog] at h3
    exact h3
def crashL : List (Nat × List UInt8) → List Int → List (List UInt8) → List (List UInt8)
  | [], _, L => L
  | _ :: _, [], L => L
  | x :: l, k :: ks, L => crashL l ks (L.set x.1 (x.2.take (max 0 (min k 32)).toNat ++ (L.getD x.1 []).drop (max 0 (min k 32)).toNat))
def crash1 (x : Nat × List UInt8) (k : Option Int) (L : List (List UInt8)) : List (List UInt8) :=
  match k with
  | none => L
  | some k => L.set x.1 (x.2.take (max 0 (min k 32)).toNat ++ (L.getD x.1 []).drop (max 0 (min k 32)).toNat)
theorem crashL_snoc (x : Nat × List UInt8) : ∀ (l : List (Nat × List UInt8)) (ks : List Int) (L : List (List UInt8)), crashL (l ++ [x]) ks L = crash1 x ks[l.length]? (crashL l ks L) := by
  intro l
  induction l with
  | nil => intro ks L; cases ks <;> rfl
  | cons y r ih =>
    intro ks L
    cases ks with
    | nil => rfl
    | cons k ks => simp only [List.cons_append, crashL, ih]; rfl
theorem crashL_ok {n : Nat} : ∀ {l : List (Nat × List UInt8)} {ks : List Int} {L : List (List UInt8)}, (∀ x ∈ L, x.length = 32) → L.length = n → (∀ x ∈ l, x.1 < n ∧ x.2.length = 32) → (∀ x ∈ crashL l ks L, x.length = 32) ∧ (crashL l ks L).length = n := by
  intro l
  induction l with
  | nil => intro ks L hL hn _; exact ⟨hL, hn⟩
  | cons y r ih =>
    intro ks L hL hn hl
    cases ks with
    | nil => exact ⟨hL, hn⟩
    | cons k ks =>
      have hy := hl y (by simp)
      refine ih (fun x hx => ?_) (by simpa using hn) (fun x hx => hl x (by simp [hx]))
      rcases List.mem_or_eq_of_mem_set hx with hx | hx
      · exact hL x hx
      · have hg : (L.getD y.1 []).length = 32 := by
          have : y.1 < L.length := by omega
          simp only [List.getD, List.getElem?_eq_getElem this, Option.getD_some]
          exact hL _ (List.getElem_mem this)
        have hle : (max 0 (min k 32)).toNat ≤ 32 := by omega
        rw [hx, List.length_append, List.length_take, List.length_drop, hg, hy.2]; omega
def DK.crash (d : DK) (ks : List Int) : DK := { sure := crashL d.l ks d.sure, now := crashL d.l ks d.sure, l := [], fuse := -1, off := false }
end Go.Proofs

set_option linter.unusedVariables false
set_option linter.unusedSimpArgs false
namespace Go.Proofs
open Go Go.Q
open Tryz (prog)
theorem pre_cells {L : List (List UInt8)} (h : ∀ x ∈ L, x.length = 32) {i : Nat} (hi : i < L.length) {s : List UInt8} (hs : s.length ≤ 32) :
    splice (L.map u8c).flatten.toArray (i * 32) (u8c s).toArray = ((L.set i (s ++ (L.getD i []).drop s.length)).map u8c).flatten.toArray := by
  rw [splice_list, flat_splice (k := 32) (by intro x hx; rw [List.mem_map] at hx; obtain ⟨y, hy, rfl⟩ := hx; simp [h y hy]) (by simpa using hi) (by simp [hs])]
  congr 2
  rw [List.map_set]
  congr 1
  rw [u8c_append, ← u8c_drop]
  simp [List.getD, hi]
theorem DiskIs.setNow {w : World} {b : Nat} {d : DK} {bs bn : Nat} {lv : Value} {SL : List Nat} {T Ts Tn : Nat} (h : DiskIs w b d bs bn lv SL T Ts Tn) (L : List (List UInt8)) (hL : ∀ x ∈ L, x.length = 32) (hn : L.length = d.now.length) :
    DiskIs (setBlk w bn (.cells (L.map u8c).flatten.toArray Tn (0, 0))) b { d with now := L } bs bn lv SL T Ts Tn ∧ Kp [bn] w (setBlk w bn (.cells (L.map u8c).flatten.toArray Tn (0, 0))) := by
  obtain ⟨n1, n2, n3, n4, n5, n6, n7, n8, n9, n10⟩ := h.ne
  have hk : Kp [bn] w (setBlk w bn (.cells (L.map u8c).flatten.toArray Tn (0, 0))) := (Kp.refl _ _).setBlk (.inl (by simp)) _
  exact ⟨⟨by simp only [hn]; exact hk.get h.hb (by simpa using n2), hk.get h.hs (by simpa using n4), heap_self (live_of h.hn), RowsAt.keep h.hl hk (fun x hx => by simp; intro hh; subst hh; exact n6 hx), h.nd,
    ⟨by simp only [hn]; exact h.ok.len, by simp only [hn]; exact h.ok.pos, by simp only [hn]; exact h.ok.most, h.ok.sz1, hL, by simp only [hn]; exact h.ok.szl, h.ok.f0, h.ok.f1⟩⟩, hk⟩
theorem Crash_loop {R : KW} {w0 : World} {b : Nat} {d : DK} {bs bn : Nat} {lv kv : Value} {ks : List Int} {SK : List Nat} {SL : List Nat} {T Ts Tn : Nat} (h0 : DiskIs w0 b d bs bn lv SL T Ts Tn) (hlen : d.l.length < 2 ^ 40)
    (hks : IntsAt w0 kv ks SK) (hdis : ∀ x ∈ SK, x ∉ b :: bs :: bn :: SL) (hkw : ∀ x ∈ ks, -9223372036854775808 ≤ x ∧ x < 9223372036854775808)
    (hend : ∀ w', DiskIs w' b { d with sure := crashL d.l ks d.sure } bs bn lv SL T Ts Tn → Kp [bs] w0 w' → Fn5_s0 R (.pointer (some ⟨b, 0, none⟩)) w') :
    Fn5_L2 R (.pointer (some ⟨b, 0, none⟩)) kv lv (.int .i64 d.l.length) (.int .i64 0) w0 := by
  unfold Fn5_L2
  have hstart : crashL (d.l.take 0) ks d.sure = d.sure := rfl
  refine loop_inv (fun m xs w => ∃ i, i ≤ d.l.length ∧ m = d.l.length - i ∧ xs = [.pointer (some ⟨b, 0, none⟩), kv, lv, .int .i64 d.l.length, .int .i64 i] ∧
    DiskIs w b { d with sure := crashL (d.l.take i) ks d.sure } bs bn lv SL T Ts Tn ∧ Kp [bs] w0 w) ?_ (m := d.l.length) ⟨0, by omega, by omega, rfl, by rw [hstart]; exact h0, Kp.refl _ _⟩
  rintro m N xs w ⟨i, hi, rfl, rfl, h, hk⟩ hN
  simp only [Fn5_L2F, Fn5_b1, bq_lss, bV_b]
  refine ⟨fun hlt => ?_, fun hge => ?_⟩
  · have hlt : i < d.l.length := by simpa using hlt
    have hks' : IntsAt w kv ks SK := hks.keep hk (fun x hx => by
      have := hdis x hx
      simp only [List.mem_cons, not_or] at this
      simp [this.2.1])
    obtain ⟨n1, n2, n3, n4, n5, n6, n7, n8, n9, n10⟩ := h.ne
    obtain ⟨bl, TF, c, hbl, hheap, hia, hle, hext, _⟩ := RowsAt.at h.hl (i := i) (by simpa using hlt)
    have hrow : (d.l.map encW)[i]'(by simpa using hlt) = encW d.l[i] := by simp
    simp only at hia hext
    rw [hrow] at hext
    have hx := h0.ok.szl d.l[i] (List.getElem_mem hlt)
    have hin := hN (d.l.length - (i + 1)) [.pointer (some ⟨b, 0, none⟩), kv, lv, .int .i64 d.l.length, .int .i64 ((i + 1 : Nat) : Int)]
    have hencl : (encW d.l[i]).length = 33 := by simp [encW, hx.2]
    have hzsz : (zc prog 95).size = 33 := by rw [zc93]; simp
    have hsp : splice (zc prog 95) 0 (encW d.l[i]).toArray = (encW d.l[i]).toArray := by
      have : (zc prog 95).toList.drop 33 = [] := List.drop_of_length_le (by simp [hzsz])
      simp [splice, hencl, this]
    have hone : (encW d.l[i]).toArray.all one = true := by
      have := one_u8c d.l[i].2
      rw [List.all_toArray] at this ⊢
      simpa [encW] using this
    obtain ⟨E, hE⟩ : ∃ E, E = (encW d.l[i]).toArray := ⟨_, rfl⟩
    have hE0 : E[0]? = some (.int .i64 d.l[i].1) := by rw [hE]; rfl
    have hEs : E.size = 33 := by rw [hE]; simpa using hencl
    have hEx : ∀ n, n ≤ 32 → E.extract 1 (1 + n) = (u8c (d.l[i].2.take n)).toArray := by
      intro n hn
      rw [hE, extract_list, ← u8c_take]
      simp [encW]
    rw [← hE] at hext hsp hone
    have hlb := live_of h.hb
    have hls := live_of h.hs
    have hks1 : Kp [] w (w.alloc (.cells E 95)) := (Kp.refl _ _).alloc _
    have h' := h.keep hks1 (by simp)
    have hiw : IntKind.i64.wrap ((i : Int) + 1) = ((i + 1 : Nat) : Int) := by rw [w64 (by omega) (by omega)]; simp
    obtain ⟨ka, kc, hkv⟩ := hks'.len
    have hkl : ∀ K : Value → Prop, lenL kv K = K (.int .i64 ks.length) := by intro K; rw [hkv]; rfl
    have hi1 : d.l[i].1 < (crashL (d.l.take i) ks d.sure).length := by have := h.ok.len; simp only at this; omega
    have hsz := h.ok.sz1
    simp only at hsz
    have hL : crashL (d.l.take (i + 1)) ks d.sure = crash1 d.l[i] ks[i]? (crashL (d.l.take i) ks d.sure) := by
      rw [take_snoc hlt, crashL_snoc]; simp [Nat.min_eq_left hi]
    have hkd : ∀ w, Kp [] w w.drew := fun w => (Kp.refl _ w).drew
    rw [hia]
    by_cases hik : i < ks.length
    · obtain ⟨bk, ok, ck, Tk, frk, hbk, hkheap, hkia, hkc⟩ := hks'.at hik
      have hkne := live_of hkheap
      obtain ⟨q, hq⟩ : ∃ q, q = ks.getD i 0 := ⟨_, rfl⟩
      rw [← hq] at hkc
      have hki : ks[i]? = some q := by rw [hq]; simp [List.getD, hik]
      obtain ⟨n, hn⟩ : ∃ n, n = (max 0 (min q 32)).toNat := ⟨_, rfl⟩
      have hnq : max 0 (min q 32) = (n : Int) := by omega
      have hn32 : n ≤ 32 := by omega
      have hpre := pre_cells hsz hi1 (s := d.l[i].2.take n) (by simp; omega)
      have hmin : Nat.min 32 n = n := Nat.min_eq_right hn32
      have htl : (d.l[i].2.take n).length = n := by simp [hx.2, hn32]
      rw [htl] at hpre
      have honep := one_u8c (d.l[i].2.take n)
      obtain ⟨X, hX⟩ : ∃ X, X = (u8c (d.l[i].2.take n)).toArray := ⟨_, rfl⟩
      have hEX : E.extract 1 (1 + n) = X := by rw [hEx n hn32, hX]
      have hXs : X.size = n := by rw [hX]; simpa using htl
      rw [← hX] at hpre honep
      simp [-getElem?_pos, -Array.getElem?_eq_getElem, -List.length_flatten, gz0, gz1, hheap, hle, hext, hEs, hzsz, hone, hsp, h.hb, heap_new, heap_old, hlb, hls, hE0, hx.1, h.hs, hiw, hkl, hik, hkia, hkheap, hkc, hkne, hnq, hn32, cp, src, wrO, hmin, hEX, hXs, hpre]
      have hset := h'.setSure ((crashL (d.l.take i) ks d.sure).set d.l[i].1 (d.l[i].2.take n ++ ((crashL (d.l.take i) ks d.sure).getD d.l[i].1 []).drop n)) (by
        intro x hx'
        have hok := crashL_ok (n := d.now.length) (ks := ks) (l := d.l.take (i + 1)) h0.ok.sz1 (by have := h0.ok.len; exact this) (fun x hx => h0.ok.szl x (List.mem_of_mem_take hx))
        rw [hL, hki] at hok
        simp only [crash1, ← hn] at hok
        exact hok.1 x hx') (by simp)
      refine ⟨fun j hj => by rw [Array.all_eq_true] at hone; exact hone j (by omega), by omega, by omega, ⟨by rw [rows_len hsz]; omega, by rw [show min (1 + n) 33 - 1 = X.size by omega]; exact honep⟩, ?_⟩
      refine hin _ (by omega) ⟨i + 1, hlt, rfl, by simp, ?_, ?_⟩
      · rw [hL, hki]; simp only [crash1, ← hn]
        have := hset.1.keep (hkd _) (by simp)
        simpa using this
      · have := (hk.trans' ((hks1.mono (by simp)).trans' hset.2)).drew
        simpa using this
    · have hki : ks[i]? = none := by simp; omega
      simp [-getElem?_pos, -Array.getElem?_eq_getElem, -List.length_flatten, gz0, gz1, hheap, hle, hext, hEs, hzsz, hone, hsp, h.hb, heap_new, heap_old, hlb, hls, hE0, hx.1, h.hs, hiw, hkl, hik]
      refine ⟨fun j hj => by rw [Array.all_eq_true] at hone; exact hone j (by omega), ?_⟩
      refine hin _ (by omega) ⟨i + 1, hlt, rfl, by simp, ?_, hk.trans' (hks1.mono (by simp))⟩
      rw [hL, hki]
      exact h'
  · have hie : i = d.l.length := by simp at hge; omega
    subst hie
    rw [List.take_length] at h
    exact hend w h hk
theorem Crash_spec {w : World} {b : Nat} {d : DK} {S : List Nat} (h : DiskAt w b d S) (hl : d.l.length < 2 ^ 40) {kv : Value} {ks : List Int} {SK : List Nat} (hks : IntsAt w kv ks SK) (hdis : ∀ x ∈ SK, x ∉ S)
    (hkw : ∀ x ∈ ks, -9223372036854775808 ≤ x ∧ x < 9223372036854775808) {K : KW}
    (hK : ∀ w', DiskAt w' b (d.crash ks) S → Kp S w w' → K (.int .i64 0) w') : callG prog 21 #[.pointer (some ⟨b, 0, none⟩), kv] w K := by
  refine Fn5_call ?_
  simp only [Fn5, Fn5_s4]
  refine Size_spec h ?_
  obtain ⟨bs, bn, lv, SL, T, Ts, Tn, rfl, h⟩ := h
  have hp : d.now ≠ [] := by intro hh; have := h.ok.pos; rw [hh] at this; simp at this
  obtain ⟨a, c, hlv⟩ := LogAt.len h.hl
  suffices hmain : Fn5_L2 K (.pointer (some ⟨b, 0, none⟩)) kv lv (.int .i64 d.l.length) (.int .i64 0) w by
    rw [hlv] at hmain
    simpa [hp, Fn5_s3, h.hb, hlv] using hmain
  refine Crash_loop h hl hks hdis hkw fun w1 h1 hk1 => ?_
  obtain ⟨n1, n2, n3, n4, n5, n6, n7, n8, n9, n10⟩ := h1.ne
  have hok := crashL_ok (n := d.now.length) (ks := ks) (l := d.l) h.ok.sz1 h.ok.len h.ok.szl
  -- now is what is sure
  obtain ⟨L, hL⟩ : ∃ L, L = crashL d.l ks d.sure := ⟨_, rfl⟩
  rw [← hL] at hok h1
  obtain ⟨C, hC⟩ : ∃ C, C = (L.map u8c).flatten.toArray := ⟨_, rfl⟩
  obtain ⟨N, hN⟩ : ∃ N, N = (d.now.map u8c).flatten.toArray := ⟨_, rfl⟩
  have hs := h1.hs
  have hn := h1.hn
  simp only at hs hn
  rw [← hC] at hs
  rw [← hN] at hn
  have hCs : C.size = d.now.length * 32 := by
    have := rows_len hok.1
    rw [hok.2] at this
    rw [hC]; exact this
  have hNs : N.size = d.now.length * 32 := by
    have := rows_len h.ok.sz2
    rw [hN]; exact this
  have hCone : C.all one = true := by
    rw [hC, List.all_toArray, List.all_eq_true]
    intro x hx
    rw [List.mem_flatten] at hx
    obtain ⟨y, hy, hxy⟩ := hx
    rw [List.mem_map] at hy
    obtain ⟨z, _, rfl⟩ := hy
    have := one_u8c z
    rw [List.all_toArray, List.all_eq_true] at this
    exact this x hxy
  have hCx : C.extract 0 (d.now.length * 32) = C := by rw [← hCs]; simp
  have hsp : splice N 0 C = C := by
    have : N.toList.drop C.size = [] := List.drop_of_length_le (by simp [hNs, hCs])
    simp [splice, this]
  have hlb := live_of h1.hb
  have hln := live_of h1.hn
  simp [-getElem?_pos, -Array.getElem?_eq_getElem, -List.length_flatten, gz0, gz1, Fn5_s0, h1.hb, hs, hn, cp, src, wrO, hCs, hNs, hCx, hsp, hCone]
  refine ⟨by rw [← hCs]; exact hCone, ?_⟩
  have hnow := h1.setNow L hok.1 hok.2
  rw [← hC] at hnow
  have hk2 : Kp [bn] w1 (setBlk w1 bn (.cells C Tn (0, 0))).drew := hnow.2.drew
  have h2 : DiskIs (setBlk w1 bn (.cells C Tn (0, 0))).drew b { sure := L, now := L, l := d.l, fuse := d.fuse, off := d.off } bs bn lv SL T Ts Tn := hnow.1.keep (Kp.refl [] _).drew (by simp)
  refine settles_spec ⟨bs, bn, lv, SL, T, Ts, Tn, rfl, h2⟩ fun w3 h3 hk3 => ?_
  obtain ⟨bs', bn', lv', SL', T', Ts', Tn', hS, h3⟩ := h3
  have hlv3 := live_of h3.hb
  have hhead := h3.head (-1) false (by omega) (by omega)
  simp only [List.cons.injEq, true_and] at hS
  obtain ⟨rfl, rfl, rfl⟩ := hS
  subst hL
  have := hK _ ⟨bs, bn, lv', SL, T', Ts', Tn', rfl, hhead.1⟩ ((((hk1.mono (by simp)).trans' (hk2.mono (by simp))).trans' hk3).trans' (hhead.2.mono (by simp)))
  simp [-getElem?_pos, -Array.getElem?_eq_getElem, -List.length_flatten, gz0, gz1, h3.hb, heap_self, hlv3]
  simpa [DK.settled] using this
end Go.Proofs

set_option linter.unusedVariables false
set_option linter.unusedSimpArgs false
namespace Go.Proofs
open Go Go.Q
open Tryz (prog)
structure LG where
  lo : Int
  hi : Int
  turn : Int
  l : List (List UInt8)
  used : List UInt8
def LogIs (w : World) (a b : Nat) (g : LG) (SL : List Nat) (lv : Value) : Prop :=
  w.heap[a]? = some (.cells #[.pointer (some ⟨b, 0, none⟩), .int .i64 g.lo, .int .i64 g.hi, .int .i64 g.turn, lv, .string (str g.used)] 141) ∧ RowsAt w lv 1 (g.l.map strV) SL ∧ a ∉ SL
theorem LogIs.keep {w w' : World} {a b : Nat} {g : LG} {SL S' : List Nat} {lv : Value} (h : LogIs w a b g SL lv) (hk : Kp S' w w') (h1 : a ∉ S') (h2 : ∀ x ∈ SL, x ∉ S') : LogIs w' a b g SL lv :=
  ⟨hk.get h.1 h1, h.2.1.keep hk h2, h.2.2⟩
theorem given_spec {w : World} {a b : Nat} {g : LG} {SL : List Nat} {lv : Value} (h : LogIs w a b g SL lv) {K : KW} (hK : K (.bool true) w) : callG prog 94 #[.pointer (some ⟨a, 0, none⟩)] w K := by
  refine Fn125_call ?_
  simpa [Fn125, Fn125_s0, h.1] using hK
theorem Clone_spec {w : World} {v : Value} {l : List (List UInt8)} {S : List Nat} (h : RowsAt w v 1 (l.map strV) S) (hl : l.length < 2 ^ 40) {K : KW}
    (hK : ∀ w' v' S', RowsAt w' v' 1 (l.map strV) S' → Kp [] w w' → (∀ y ∈ S', w.heap.size ≤ y) → K v' w') : callG prog 115 #[v] w K := by
  refine Fn102_call ?_
  simp only [Fn102, Fn102_s0]
  obtain ⟨sa, sc, hv, _⟩ := h.len
  have hnil : sa = none → l = [] := by
    intro h0
    subst h0
    rcases h with ⟨_, h2, _⟩ | ⟨bl, F, T, h1, _⟩
    · simpa using h2
    · rw [h1] at hv; cases hv
  rw [hv, bq_sleql _ _ _ _ _ (by kernel_rfl)]
  simp only [bV_b]
  refine ⟨fun h0 => ?_, fun h0 => ?_⟩
  · have : l = [] := hnil (by simpa using h0)
    subst this
    exact hK w _ [] (.inl ⟨rfl, rfl, rfl⟩) (Kp.refl _ _) (by simp)
  · have hb : ∀ K : KW, bsl 9 1 0 (zc prog 9) #[] w K = K (.slice (some ⟨w.heap.size, 0, none⟩) 0 0) (w.alloc (.cells #[] 9)) := by
      intro K
      have hr : rep (zc prog 9) (0 * 1) = #[] := by simp [rep]
      unfold bsl
      rw [hr]
      rfl
    rw [hb, zc9]
    obtain ⟨w1, hw1⟩ : ∃ w1, w1 = w.alloc (.cells #[] 9) := ⟨_, rfl⟩
    have hk1 : Kp [] w w1 := by rw [hw1]; exact (Kp.refl [] w).alloc _
    have hb1 : w1.heap[w.heap.size]? = some (.cells #[] 9) := by rw [hw1]; exact heap_new
    rw [← hw1, ← hv]
    have h1 : RowsAt w1 (.slice (some ⟨w.heap.size, 0, none⟩) 0 0) 1 [] [w.heap.size] := .inr ⟨_, [], 9, rfl, rfl, hb1, by simp, rfl, by simp⟩
    have hs := (h.keep hk1 (by simp)).rd
    have hone := strV_one l
    refine rows_app (k := 1) (z := [.string ⟨#[]⟩]) (G := l.map strV) h1 (by omega) rfl (fun y hy => hs.row hy) hone (fun K' hK' => hs.src K' hK') (by simp; omega) (by simp; omega) fun v2 w2 S2 h2 hk2 hS2 => ?_
    have hsz := hk1.size
    refine hK w2 v2 S2 (by simpa using h2) (hk1.trans hk2 fun y hy hlt => by simp at hy; omega) fun y hy => ?_
    rcases hS2 y hy with h | h
    · simp at h; omega
    · omega
theorem Records_spec {w : World} {a b : Nat} {g : LG} {SL : List Nat} {lv : Value} (h : LogIs w a b g SL lv) (hl : g.l.length < 2 ^ 40) {K : KW}
    (hK : ∀ w' v' S', RowsAt w' v' 1 (g.l.map strV) S' → Kp [] w w' → (∀ y ∈ S', w.heap.size ≤ y) → K v' w') : callG prog 86 #[.pointer (some ⟨a, 0, none⟩)] w K := by
  refine Fn123_call ?_
  simp only [Fn123, Fn123_s0]
  refine given_spec h ?_
  simp [-getElem?_pos, -Array.getElem?_eq_getElem, -List.length_flatten, gz0, gz1, h.1]
  exact Clone_spec h.2.1 hl hK
end Go.Proofs

set_option linter.unusedVariables false
set_option linter.unusedSimpArgs false
namespace Go.Proofs
open Go Go.Q
open Tryz (prog)
def allOf (d : DK) (lo n : Nat) : List UInt8 := ((d.now.drop lo).take n).flatten
theorem allOf_succ {d : DK} {lo n : Nat} (h : lo + n < d.now.length) : allOf d lo (n + 1) = allOf d lo n ++ d.now.getD (lo + n) [] := by
  unfold allOf
  rw [List.take_succ_eq_append_getElem (by simp; omega), List.flatten_append]
  simp [List.getD, h]
theorem allOf_len {d : DK} (ok : d.Ok) {lo n : Nat} (h : lo + n ≤ d.now.length) : (allOf d lo n).length = 32 * n := by
  unfold allOf
  rw [flat_len (k := 32) (fun x hx => ok.sz2 x (List.mem_of_mem_drop (List.mem_of_mem_take hx)))]
  simp; omega
theorem mk_func {f : FuncId} {caps : Array Value} {w : World} {K : Value → Prop} : qG prog (Instr.makeFunc (.func f) #[] caps) w K = K (.func (.func f) #[] caps) := qG_of rfl
theorem has57 : hasBody prog 108 = true := by kernel_rfl
theorem open_fn {w : World} {b xb bb : Nat} {d : DK} {S SB : List Nat} {l : List UInt8} (h : DiskAt w b d S) (hx : w.heap[xb]? = some (.cells #[.pointer (some ⟨b, 0, none⟩)] 34)) (hb : Bld w bb l SB) (at_ : Int) (hl : l.length + (d.read at_).1.length < 2 ^ 40) {K : KW}
    (hK : ∀ w' SB', Bld w' bb (l ++ (d.read at_).1) SB' → Kp SB w w' → (∀ x ∈ SB', x ∈ SB ∨ w.heap.size ≤ x) → K (.int .i64 (d.read at_).2) w') : callG prog 108 #[.int .i64 at_, .pointer (some ⟨xb, 0, none⟩), .pointer (some ⟨bb, 0, none⟩)] w K := by
  refine Fn128_call ?_
  simp only [Fn128, Fn128_s0]
  simp [-getElem?_pos, -Array.getElem?_eq_getElem, -List.length_flatten, gz0, gz1, hx]
  refine Read_spec h at_ ?_
  rw [ex0, ex1]
  exact WriteString_spec hb _ hl fun w' SB' h' hk hS => hK w' SB' h' hk hS
theorem open_sectors {w : World} {w0s : Nat} {b xb bb : Nat} {d : DK} {S SB : List Nat} {lo hi : Nat} {lp : Value} (h : DiskAt w b d S) (ok : d.Ok) (hoff : d.off = false) (hx : w.heap[xb]? = some (.cells #[.pointer (some ⟨b, 0, none⟩)] 34)) (hb : Bld w bb [] SB)
    (hd : ∀ x ∈ SB, w0s ≤ x) (hS0 : ∀ x ∈ S, x < w0s) (hx0 : xb ∉ SB) (hxs : w0s ≤ xb) (hxw : xb < w.heap.size) (hws : w0s ≤ w.heap.size) (hlh : lo ≤ hi) (hhi : hi ≤ d.now.length) {K : KW}
    (hK : ∀ w' SB', Bld w' bb (allOf d lo (hi - lo)) SB' → (∀ x ∈ SB', x ∈ SB ∨ w.heap.size ≤ x) → Kp SB w w' → K (.int .i64 0) w') :
    callG prog 96 #[lp, .int .i64 lo, .int .i64 hi, .func (.func 108) #[] #[.pointer (some ⟨xb, 0, none⟩), .pointer (some ⟨bb, 0, none⟩)]] w K := by
  refine Fn126_call ?_
  simp only [Fn126, Fn126_s4, Fn126_s3]
  unfold Fn126_L2
  have hmost := ok.most
  refine loop_inv (fun m xs wi => ∃ i SBi, lo + i ≤ hi ∧ m = hi - lo - i ∧ xs = [.int .i64 hi, .func (.func 108) #[] #[.pointer (some ⟨xb, 0, none⟩), .pointer (some ⟨bb, 0, none⟩)], .int .i64 ((lo + i : Nat) : Int)] ∧
      Bld wi bb (allOf d lo i) SBi ∧ (∀ x ∈ SBi, x ∈ SB ∨ w.heap.size ≤ x) ∧ Kp SB w wi)
    ?_ (m := hi - lo) ⟨0, SB, by omega, rfl, by rw [Nat.add_zero], by simpa [allOf] using hb, fun x hx => .inl hx, Kp.refl _ _⟩
  rintro m N xs wi ⟨i, SBi, hi', rfl, rfl, hbi, hSi, hki⟩ hN
  simp only [Fn126_L2F, Fn126_b1, bq_lss, bV_b]
  refine ⟨fun hlt => ?_, fun hge => ?_⟩
  · have hlt : lo + i < hi := by simp at hlt; omega
    refine ⟨has57, ?_⟩
    have hdi : DiskAt wi b d S := h.keep hki fun x hx hm => by have := hd x hm; have := hS0 x hx; omega
    have hxi := hki.get hx hx0
    have hr : d.read ((lo + i : Nat) : Int) = (d.now.getD (lo + i) [], 0) := by
      unfold DK.read
      rw [if_pos ⟨by omega, by omega⟩, if_neg (by simp [hoff]), Int.toNat_natCast]
    have hal := allOf_len ok (lo := lo) (n := i) (by omega)
    have hal2 := allOf_len ok (lo := lo) (n := i + 1) (by omega)
    have hsucc := allOf_succ (d := d) (lo := lo) (n := i) (by omega)
    have hg32 : (d.now.getD (lo + i) []).length ≤ 32 := by
      rw [hsucc, List.length_append] at hal2; omega
    refine open_fn hdi hxi hbi _ (by rw [hr]; simp only; omega) fun w' SB' hb' hk' hS' => ?_
    rw [hr] at hb' ⊢
    simp only at hb'
    rw [← hsucc] at hb'
    have hiw : IntKind.i64.wrap (((lo + i : Nat) : Int) + 1) = ((lo + (i + 1) : Nat) : Int) := by rw [w64 (by omega) (by omega)]; omega
    have hks := hki.size
    have hkk : Kp SB w w' := hki.trans hk' fun x hx hlt => by
      rcases hSi x hx with h | h
      · exact h
      · omega
    have hiw2 : IntKind.i64.wrap ((lo : Int) + (i : Int) + 1) = ((lo + (i + 1) : Nat) : Int) := by rw [w64 (by omega) (by omega)]; omega
    simp [-getElem?_pos, -Array.getElem?_eq_getElem, -List.length_flatten, gz0, gz1]
    rw [hiw2]
    refine hN (hi - lo - (i + 1)) _ _ (by omega) ⟨i + 1, SB', by omega, rfl, rfl, hb', fun x hx => ?_, hkk⟩
    rcases hS' x hx with h | h
    · exact hSi x h
    · exact .inr (by omega)
  · have hie : i = hi - lo := by simp at hge; omega
    subst hie
    unfold Fn126_s0
    exact hK wi SBi hbi hSi hki
theorem zc107 : zc prog 110 = #[.pointer none, .slice none 0 0] := by kernel_rfl
theorem zc71 : zc prog 141 = #[.pointer none, .int .i64 0, .int .i64 0, .int .i64 0, .slice none 0 0, .string (str [])] := by kernel_rfl
theorem bld71 {x0 x1 x2 x3 : Value} (h0 : one x0 = true) (h1 : one x1 = true) (h2 : one x2 = true) (h3 : one x3 = true) {k : Value → Prop} :
    bld [(0, 1), (1, 1), (2, 1), (3, 1), (4, 1), (5, 1)] (zc prog 141) #[(0, x0), (1, x1), (2, x2), (3, x3)] k = k (.agg #[x0, x1, x2, x3, .slice none 0 0, .string (str [])]) := by
  have g0 := cells_one h0
  have g1 := cells_one h1
  have g2 := cells_one h2
  have g3 := cells_one h3
  rw [zc71]
  unfold bld
  rw [fill_step (off := 0) (size := 1) rfl (by rw [g0]; rfl) (by simp), g0]
  rw [fill_step (off := 1) (size := 1) rfl (by rw [g1]; rfl) (by simp [splice]), g1]
  rw [fill_step (off := 2) (size := 1) rfl (by rw [g2]; rfl) (by simp [splice]), g2]
  rw [fill_step (off := 3) (size := 1) rfl (by rw [g3]; rfl) (by simp [splice]), g3]
  rfl
theorem scanL_used (t : Int) : ∀ f s, usedOf (scanL t f s) ≤ s.length := by
  intro f
  induction f with
  | zero => intro s; simp [scanL, usedOf]
  | succ f ih =>
    intro s
    unfold scanL
    split
    · rename_i h
      obtain ⟨_, _, _, n4, _⟩ := (next_frame t s).1 h
      have h1 := ih (s.drop (10 + lenAt s))
      have h2 := recOf_len n4
      rw [List.length_drop] at h1
      simp only [usedOf, List.map_cons, List.sum_cons] at h1 ⊢
      omega
    · simp [usedOf]
theorem scan_used (t : Int) (s : List UInt8) : usedOf (scan t s) ≤ s.length := scanL_used t _ s
theorem open_kp {w0 : Nat} {w w' : World} {S : List Nat} (h : Kp S w w') (hS : ∀ x ∈ S, w0 ≤ x) {w0w : World} (hk : Kp [] w0w w) (he : w0 = w0w.heap.size) : Kp [] w0w w' :=
  hk.trans h fun x hx hlt => by have := hS x hx; omega
theorem Open_ok {w : World} {b : Nat} {d : DK} {S : List Nat} (h : DiskAt w b d S) (hoff : d.off = false) {lo hi : Nat} (hlh : lo < hi) (hhi : hi ≤ d.now.length) {turn : Int} (ht : turnOk turn = true) {K : KW}
    (hK : ∀ w' a lv SL, LogIs w' a b ⟨lo, hi, turn, scan turn (allOf d lo (hi - lo)), (allOf d lo (hi - lo)).take (usedOf (scan turn (allOf d lo (hi - lo))))⟩ SL lv → Kp [] w w' → w.heap.size ≤ a → (∀ x ∈ SL, w.heap.size ≤ x) →
      K (.tuple #[.pointer (some ⟨a, 0, none⟩), .int .i64 0]) w') : callG prog 84 #[.pointer (some ⟨b, 0, none⟩), .int .i64 lo, .int .i64 hi, .int .i64 turn] w K := by
  refine Fn127_call ?_
  have ok : d.Ok := by obtain ⟨bs, bn, lv, SL, T, Ts, Tn, rfl, hd⟩ := h; exact hd.ok
  have hSlt : ∀ y ∈ S, y < w.heap.size := fun y hy => by
    obtain ⟨bs, bn, lv, SL, T, Ts, Tn, rfl, hd⟩ := h
    exact hd.live y hy
  have hmost := ok.most
  simp only [Fn127, Fn127_s1]
  rw [newG_k]
  obtain ⟨n, hn⟩ : ∃ n, n = w.heap.size := ⟨_, rfl⟩
  obtain ⟨w1, hw1⟩ : ∃ w1, w1 = w.alloc (.cells (Value.cells (.pointer (some ⟨b, 0, none⟩))) 34) := ⟨_, rfl⟩
  have hk1 : Kp [] w w1 := by rw [hw1]; exact (Kp.refl [] w).alloc _
  have hX1 : w1.heap[n]? = some (.cells #[.pointer (some ⟨b, 0, none⟩)] 34) := by rw [hw1, hn]; exact heap_new
  have hs1 : w1.heap.size = n + 1 := by rw [hw1, hn]; simp
  rw [← hn, ← hw1]
  have hlo : ¬ (lo : Int) < 0 := by omega
  simp [-getElem?_pos, -Array.getElem?_eq_getElem, -List.length_flatten, gz0, gz1, hX1]
  refine ⟨fun hbad => by omega, Size_spec (h.keep hk1 (by simp)) ?_⟩
  simp [-getElem?_pos, -Array.getElem?_eq_getElem, -List.length_flatten, gz0, gz1]
  refine ⟨fun hbad => by omega, fun _ => ⟨fun hbad => by omega, fun _ => ?_⟩⟩
  refine right_spec turn ?_
  simp [-getElem?_pos, -Array.getElem?_eq_getElem, -List.length_flatten, gz0, gz1, ht]
  unfold Fn127_s0
  simp only [ld1_p, rd1_mk, hX1]
  have hget : (#[Value.pointer (some ⟨b, 0, none⟩)] : Array Value)[0]? = some (.pointer (some ⟨b, 0, none⟩)) := rfl
  simp only [hget]
  rw [bld71 rfl rfl rfl rfl, newG_k, newG_k, mk_func, zc107]
  have hcells : Value.cells (.agg #[.pointer (some ⟨b, 0, none⟩), .int .i64 lo, .int .i64 hi, .int .i64 turn, .slice none 0 0, .string (str [])]) = #[.pointer (some ⟨b, 0, none⟩), .int .i64 lo, .int .i64 hi, .int .i64 turn, .slice none 0 0, .string (str [])] := rfl
  rw [hcells]
  obtain ⟨w2, hw2⟩ : ∃ w2, w2 = w1.alloc (.cells #[.pointer (some ⟨b, 0, none⟩), .int .i64 lo, .int .i64 hi, .int .i64 turn, .slice none 0 0, .string (str [])] 141) := ⟨_, rfl⟩
  have hk2 : Kp [] w1 w2 := by rw [hw2]; exact (Kp.refl [] w1).alloc _
  have hA2 : w2.heap[n + 1]? = some (.cells #[.pointer (some ⟨b, 0, none⟩), .int .i64 lo, .int .i64 hi, .int .i64 turn, .slice none 0 0, .string (str [])] 141) := by rw [hw2, ← hs1]; exact heap_new
  have hs2 : w2.heap.size = n + 2 := by rw [hw2]; simp [hs1]
  rw [← hw2, hs1, hs2]
  obtain ⟨w3, hw3⟩ : ∃ w3, w3 = w2.alloc (.cells #[.pointer none, .slice none 0 0] 110) := ⟨_, rfl⟩
  have hk3 : Kp [] w2 w3 := by rw [hw3]; exact (Kp.refl [] w2).alloc _
  have hB3 : Bld w3 (n + 2) [] [n + 2] := by rw [hw3, ← hs2]; exact bld_new
  have hs3 : w3.heap.size = n + 3 := by rw [hw3]; simp [hs2]
  rw [← hw3]
  have hk13 := (hk1.trans' hk2).trans' hk3
  have hX3 := (hk2.trans' hk3).get hX1 (by simp)
  have hA3 := hk3.get hA2 (by simp)
  refine open_sectors (w0s := n) (SB := [n + 2]) (h.keep hk13 (by simp)) ok hoff hX3 hB3 (by simp) (by intro x hx; have := hSlt x hx; omega) (by simp) (by omega) (by omega) (by omega) (by omega) hhi fun w4 SB4 hB4 hS4 hk4 => ?_
  obtain ⟨all, hall⟩ : ∃ all, all = allOf d lo (hi - lo) := ⟨_, rfl⟩
  have hlen : all.length = 32 * (hi - lo) := by rw [hall]; exact allOf_len ok (by omega)
  rw [← hall] at hB4 hK
  have hA4 := hk4.get hA3 (by simp)
  have hs4 := hk4.size
  have hS4' : ∀ x ∈ SB4, n + 2 ≤ x := fun x hx => by
    rcases hS4 x hx with h | h
    · simp at h; omega
    · omega
  have ha4 : n + 1 ∉ SB4 := fun hm => by have := hS4' _ hm; omega
  simp [-getElem?_pos, -Array.getElem?_eq_getElem, -List.length_flatten, gz0, gz1]
  refine String_spec hB4.done (by omega) fun w5 hB5 hk5 => ?_
  have hs5 := hk5.size
  refine Scan_spec turn all (by omega) fun w6 v S6 hr6 hk6 hS6 => ?_
  have hA6 := hk6.get (hk5.get hA4 ha4) (by simp)
  have l6 := live_of hA6
  have hs6 := hk6.size
  have hv := rows_one hr6
  rw [ex0, ex1]
  simp [-getElem?_pos, -Array.getElem?_eq_getElem, -List.length_flatten, gz0, gz1, hA6, l6, hv]
  obtain ⟨w7, hw7⟩ : ∃ w7, w7 = setBlk w6 (n + 1) (.cells #[.pointer (some ⟨b, 0, none⟩), .int .i64 lo, .int .i64 hi, .int .i64 turn, v, .string (str [])] 141) := ⟨_, rfl⟩
  have hk7 : Kp [n + 1] w6 w7 := by rw [hw7]; exact (Kp.refl _ w6).setBlk (.inl (by simp)) _
  have hA7 : w7.heap[n + 1]? = some (.cells #[.pointer (some ⟨b, 0, none⟩), .int .i64 lo, .int .i64 hi, .int .i64 turn, v, .string (str [])] 141) := by rw [hw7]; exact heap_self l6
  rw [← hw7]
  have hB7 := (hB5.keep hk6 (by simp)).keep hk7 fun x hx => by have := hS4' x hx; simp; omega
  refine String_spec hB7 (by omega) fun w8 hB8 hk8 => ?_
  have hA8 := hk8.get hA7 ha4
  have l8 := live_of hA8
  have hus := scan_used turn all
  have hext : (str all).extract 0 (usedOf (scan turn all)) = str (all.take (usedOf (scan turn all))) := by rw [str_extract]; rfl
  simp [-getElem?_pos, -Array.getElem?_eq_getElem, -List.length_flatten, gz0, gz1, hA8, l8, hext, hus]
  have hk9 : Kp [n + 1] w8 (setBlk w8 (n + 1) (.cells #[.pointer (some ⟨b, 0, none⟩), .int .i64 lo, .int .i64 hi, .int .i64 turn, v, .string (str (all.take (usedOf (scan turn all))))] 141)) := (Kp.refl _ w8).setBlk (.inl (by simp)) _
  have hne6 : ∀ x ∈ S6, x ≠ n + 1 ∧ x ∉ SB4 := fun x hx => by
    have h5 := hS6 x hx
    refine ⟨by omega, fun hm => ?_⟩
    have hlive := (hB5.keep (Kp.refl [] w5) (by simp))
    have : x < w4.heap.size := hB4.live x hm
    omega
  have e1 : Kp [] w w6 := ((open_kp hk4 (w0 := n) (by simp) hk13 hn).trans hk5 fun x hx hlt => by have := hS4' x hx; omega).trans' hk6
  have e2 : Kp [] w w8 := (e1.trans hk7 fun x hx hlt => by simp at hx; omega).trans hk8 fun x hx hlt => by have := hS4' x hx; omega
  refine hK _ (n + 1) v S6 ⟨heap_self l8, ?_, fun hm => (hne6 _ hm).1 rfl⟩ (e2.trans hk9 fun x hx hlt => by simp at hx; omega) (by omega) (fun x hx => by have := hS6 x hx; have := hk13.size; omega)
  exact ((hr6.keep hk7 fun x hx => by have := hne6 x hx; simp; exact this.1).keep hk8 fun x hx => (hne6 x hx).2).keep hk9 fun x hx => by have := hne6 x hx; simp; exact this.1
end Go.Proofs

set_option linter.unusedVariables false
set_option linter.unusedSimpArgs false
namespace Go.Proofs
open Go Go.Q
open Tryz (prog)
theorem Sync_spec {w : World} {a b : Nat} {g : LG} {SL S : List Nat} {lv : Value} {d : DK} (h : LogIs w a b g SL lv) (hd : DiskAt w b d S) (hl : d.l.length < 2 ^ 40) {K : KW}
    (hK : ∀ w', DiskAt w' b d.flush.1 S → Kp S w w' → K (.int .i64 d.flush.2) w') : callG prog 49 #[.pointer (some ⟨a, 0, none⟩)] w K := by
  refine Fn124_call ?_
  simp only [Fn124, Fn124_s0]
  refine given_spec h ?_
  simp [-getElem?_pos, -Array.getElem?_eq_getElem, -List.length_flatten, gz0, gz1, h.1]
  exact Flush_spec hd hl hK
def secOf (all : List UInt8) (k : Nat) : List UInt8 := (all.take (min (32 * k + 32) all.length)).drop (32 * k)
def putK (d : DK) (lo : Nat) (all : List UInt8) (k : Nat) : DK × Int :=
  if (d.read ((lo + k : Nat) : Int)).2 = 0 then d.write ((lo + k : Nat) : Int) (secOf all k ++ (d.read ((lo + k : Nat) : Int)).1.drop (secOf all k).length) else (d, (d.read ((lo + k : Nat) : Int)).2)
theorem read_len {d : DK} (ok : d.Ok) {at_ : Int} (h : (d.read at_).2 = 0) : (d.read at_).1.length = 32 := by
  unfold DK.read at h ⊢
  split
  · rename_i hc
    rw [if_pos hc] at h
    split
    · rename_i ho; rw [if_pos ho] at h; simp at h
    · have hi : at_.toNat < d.now.length := by omega
      simp only [List.getD, List.getElem?_eq_getElem hi, Option.getD_some]
      exact ok.sz2 _ (List.getElem_mem hi)
  · rename_i hc
    rw [if_neg hc] at h
    simp at h
theorem add_fn {w : World} {a b xa xl : Nat} {g : LG} {SL S : List Nat} {lv : Value} {d : DK} {all : List UInt8} (h : LogIs w a b g SL lv) (hd : DiskAt w b d S) (hl : d.l.length < 2 ^ 40)
    (hxa : w.heap[xa]? = some (.cells #[.string (str all)] 9)) (hxl : w.heap[xl]? = some (.cells #[.pointer (some ⟨a, 0, none⟩)] 56)) {k lo : Nat} (hlo : g.lo = (lo : Int)) (hk : 32 * k < all.length) (hall : all.length < 2 ^ 40) (hlo2 : lo < 2 ^ 40) {K : KW}
    (hK : ∀ w' S', DiskAt w' b (putK d lo all k).1 S' → Kp S w w' → (∀ x ∈ S', x ∈ S ∨ w.heap.size ≤ x) → K (.int .i64 (putK d lo all k).2) w') :
    callG prog 97 #[.int .i64 k, .pointer (some ⟨xa, 0, none⟩), .pointer (some ⟨xl, 0, none⟩)] w K := by
  refine Fn122_call ?_
  simp only [Fn122, Fn122_s0]
  have ok : d.Ok := by obtain ⟨bs, bn, lv, SL, T, Ts, Tn, rfl, hd⟩ := hd; exact hd.ok
  have h32 : IntKind.i64.wrap (32 * (k : Int)) = 32 * (k : Int) := w64 (by omega) (by omega)
  have h64 : IntKind.i64.wrap (32 * (k : Int) + 32) = 32 * (k : Int) + 32 := w64 (by omega) (by omega)
  obtain ⟨x, hx⟩ : ∃ x, x = min (32 * k + 32) all.length := ⟨_, rfl⟩
  have hmin : min (32 * (k : Int) + 32) (all.length : Int) = (x : Int) := by omega
  have hlk : IntKind.i64.wrap ((lo : Int) + (k : Int)) = (lo : Int) + (k : Int) := w64 (by omega) (by omega)
  have hA := h.1
  rw [hlo] at hA
  have htn : (32 * (k : Int)).toNat = 32 * k := by omega
  have hsec : (str all).extract (32 * k) x = str (secOf all k) := by rw [str_extract, hx]; rfl
  have hb1 : (0 : Int) ≤ x ∧ (x : Int) ≤ all.length := by omega
  have hb2 : (0 : Int) ≤ 32 * (k : Int) ∧ 32 * (k : Int) ≤ x := by omega
  have hsl : (secOf all k).length = x - 32 * k := by unfold secOf; rw [← hx]; simp; omega
  simp [-getElem?_pos, -Array.getElem?_eq_getElem, -List.length_flatten, gz0, gz1, hxa, hxl, hA, h32, h64, hmin, hlk, htn, hsec]
  refine ⟨by omega, by omega, ?_⟩
  refine Read_spec (hd.keep (Kp.refl [] w).drew (by simp)) _ ?_
  unfold putK at hK
  have hcast : ((lo + k : Nat) : Int) = (lo : Int) + (k : Int) := by simp
  rw [hcast] at hK
  simp [-getElem?_pos, -Array.getElem?_eq_getElem, -List.length_flatten, gz0, gz1, hxa, hxl, hA, hlk]
  have hmx : min x all.length = x := by omega
  rw [hmx]
  have hkd : Kp S w w.drew.drew := (Kp.refl _ _).drew.drew
  refine ⟨fun he => ?_, fun h0 => ⟨?_, ?_⟩⟩
  · rw [if_neg he] at hK
    exact hK w.drew S (hd.keep (Kp.refl [] w).drew (by simp)) (Kp.refl _ _).drew (fun x hx => .inl hx)
  · have := read_len ok h0
    omega
  · have hr := read_len ok h0
    rw [if_pos h0] at hK
    have hext : (str (d.read ((lo : Int) + (k : Int))).1).extract (x - 32 * k) (d.read ((lo : Int) + (k : Int))).1.length = str ((d.read ((lo : Int) + (k : Int))).1.drop (secOf all k).length) := by
      rw [str_extract, List.take_length, hsl]
    rw [hext, bq_sadd (by simp [hsl]; omega), str_append]
    refine Write_spec (hd.keep (Kp.refl [] w).drew.drew (by simp)) hl _ _ fun w' S' h' hk hS => ?_
    exact hK w' S' h' (hkd.trans' hk) hS
end Go.Proofs

set_option linter.unusedVariables false
set_option linter.unusedSimpArgs false
namespace Go.Proofs
open Go Go.Q
open Tryz (prog)
theorem burns_same (d : DK) : d.burns.1.sure = d.sure ∧ d.burns.1.l = d.l := by unfold DK.burns; split <;> simp
theorem write_l (d : DK) (at_ : Int) (s : List UInt8) : (d.write at_ s).1.l.length ≤ d.l.length + 1 := by
  obtain ⟨b1, b2⟩ := burns_same d
  unfold DK.write
  split
  · split
    · simp
    · show d.burns.1.l.length ≤ d.l.length + 1
      rw [b2]; omega
  · exact Nat.le_succ _
theorem putK_l (d : DK) (lo : Nat) (all : List UInt8) (k : Nat) : (putK d lo all k).1.l.length ≤ d.l.length + 1 := by
  unfold putK
  split
  · exact write_l _ _ _
  · exact Nat.le_succ _
def putN (lo : Nat) (all : List UInt8) : DK → Nat → Nat → DK × Int
  | d, _, 0 => (d, 0)
  | d, k, n + 1 => if (putK d lo all k).2 = 0 then putN lo all (putK d lo all k).1 (k + 1) n else putK d lo all k
theorem has62 : hasBody prog 97 = true := by kernel_rfl
theorem add_sectors {w : World} {a b xa xl : Nat} {g : LG} {SL S : List Nat} {lv lp : Value} {d : DK} {all : List UInt8} (h : LogIs w a b g SL lv) (hd : DiskAt w b d S)
    (hxa : w.heap[xa]? = some (.cells #[.string (str all)] 9)) (hxl : w.heap[xl]? = some (.cells #[.pointer (some ⟨a, 0, none⟩)] 56)) {first last lo : Nat} (hlo : g.lo = (lo : Int)) (hk : 32 * last < all.length + 32) (hfl : first ≤ last) (hall : all.length < 2 ^ 30) (hlo2 : lo < 2 ^ 40)
    (hl : d.l.length + (last - first) < 2 ^ 40) (haS : a ∉ S) (hxaS : xa ∉ S) (hxlS : xl ∉ S) (hSL : ∀ x ∈ SL, x ∉ S) {K : KW}
    (hK : ∀ w' S', DiskAt w' b (putN lo all d first (last - first)).1 S' → Kp S w w' → (∀ x ∈ S', x ∈ S ∨ w.heap.size ≤ x) → K (.int .i64 (putN lo all d first (last - first)).2) w') :
    callG prog 96 #[lp, .int .i64 first, .int .i64 last, .func (.func 97) #[] #[.pointer (some ⟨xa, 0, none⟩), .pointer (some ⟨xl, 0, none⟩)]] w K := by
  refine Fn126_call ?_
  simp only [Fn126, Fn126_s4, Fn126_s3]
  unfold Fn126_L2
  have ha : a < w.heap.size := lt_of_blk h.1
  have hxa' : xa < w.heap.size := lt_of_blk hxa
  have hxl' : xl < w.heap.size := lt_of_blk hxl
  refine loop_inv (fun m xs wi => ∃ k dk Sk, first ≤ k ∧ k ≤ last ∧ m = last - k ∧ xs = [.int .i64 last, .func (.func 97) #[] #[.pointer (some ⟨xa, 0, none⟩), .pointer (some ⟨xl, 0, none⟩)], .int .i64 (k : Nat)] ∧
      putN lo all d first (last - first) = putN lo all dk k (last - k) ∧ DiskAt wi b dk Sk ∧ dk.l.length ≤ d.l.length + (k - first) ∧ Kp S w wi ∧ ∀ x ∈ Sk, x ∈ S ∨ w.heap.size ≤ x)
    ?_ (m := last - first) ⟨first, d, S, by omega, hfl, rfl, rfl, rfl, hd, by omega, Kp.refl _ _, fun x hx => .inl hx⟩
  rintro m N xs wi ⟨k, dk, Sk, hk1, hk2, rfl, rfl, hput, hdk, hlk, hkp, hSk⟩ hN
  simp only [Fn126_L2F, Fn126_b1, bq_lss, bV_b]
  refine ⟨fun hlt => ?_, fun hge => ?_⟩
  · have hlt : k < last := by simp at hlt; omega
    refine ⟨has62, ?_⟩
    have hi := h.keep hkp haS hSL
    refine add_fn hi hdk (by omega) (hkp.get hxa hxaS) (hkp.get hxl hxlS) (k := k) hlo (by omega) (by omega) hlo2 fun w' S' hd' hk' hS' => ?_
    have hks := hkp.size
    have hkk : Kp S w w' := hkp.trans hk' fun x hx hlt => by
      rcases hSk x hx with h | h
      · exact h
      · omega
    have hSS : ∀ x ∈ S', x ∈ S ∨ w.heap.size ≤ x := fun x hx => by
      rcases hS' x hx with h | h
      · exact hSk x h
      · exact .inr (by omega)
    have hn : last - k = (last - (k + 1)) + 1 := by omega
    rw [hn] at hput
    simp only [putN] at hput
    simp [-getElem?_pos, -Array.getElem?_eq_getElem, -List.length_flatten, gz0, gz1]
    refine ⟨fun he => ?_, fun he => ?_⟩
    · rw [if_neg he] at hput
      have := hK w' S' (by rw [hput]; exact hd') hkk hSS
      rw [hput] at this
      exact this
    · rw [if_pos he] at hput
      have hiw : IntKind.i64.wrap ((k : Int) + 1) = ((k + 1 : Nat) : Int) := by rw [w64 (by omega) (by omega)]; simp
      rw [hiw]
      have hpl := putK_l dk lo all k
      exact hN (last - (k + 1)) _ _ (by omega) ⟨k + 1, _, S', by omega, by omega, rfl, rfl, hput, hd', by omega, hkk, hSS⟩
  · have hke : k = last := by simp at hge; omega
    subst hke
    rw [Nat.sub_self] at hput
    unfold Fn126_s0
    have := hK wi Sk (by rw [hput]; exact hdk) hkp hSk
    rw [hput] at this
    exact this
end Go.Proofs

set_option linter.unusedVariables false
set_option linter.unusedSimpArgs false
namespace Go.Proofs
open Go Go.Q
open Tryz (prog)
def addRun (turn room : Int) : List (List UInt8) → List UInt8 → Bool → Int × List UInt8 × Bool
  | [], b, full => (0, b, full)
  | s :: r, b, full =>
    if (frame turn s).2 = 0 then
      (if full = true ∨ ((frame turn s).1.length : Int) > room - (b.length : Int) then addRun turn room r b true else addRun turn room r (b ++ (frame turn s).1) false)
    else ((frame turn s).2, b, full)
theorem addRun_cons (turn room : Int) (s : List UInt8) (r : List (List UInt8)) (b : List UInt8) (full : Bool) : addRun turn room (s :: r) b full =
    if (frame turn s).2 = 0 then
      (if full = true ∨ ((frame turn s).1.length : Int) > room - (b.length : Int) then addRun turn room r b true else addRun turn room r (b ++ (frame turn s).1) false)
    else ((frame turn s).2, b, full) := rfl
theorem addRun_len (turn room : Int) (hr : 0 ≤ room) : ∀ (r : List (List UInt8)) (b : List UInt8) (full : Bool), (b.length : Int) ≤ room → ((addRun turn room r b full).2.1.length : Int) ≤ room := by
  intro r
  induction r with
  | nil => intro b full h; exact h
  | cons s r ih =>
    intro b full h
    unfold addRun
    split
    · split
      · exact ih b true h
      · rename_i hn
        refine ih _ _ ?_
        rw [not_or] at hn
        rw [List.length_append]
        omega
    · exact h
theorem frame_len_le (t : Int) (s : List UInt8) : (frame t s).1.length ≤ 1034 := by
  unfold frame
  split
  · rename_i h; rw [frameB_len]; omega
  · simp
theorem add_loop {w : World} {a bb xl b : Nat} {g : LG} {SL SB : List Nat} {lv gv : Value} {group : List (List UInt8)} {SG : List Nat} {room : Int} {R : KW}
    (h : LogIs w a b g SL lv) (hgv : ArgAt w gv 1 (group.map strV) SG) (hxl : w.heap[xl]? = some (.cells #[.pointer (some ⟨a, 0, none⟩)] 56)) (hB : Bld w bb [] SB) (haB : a ∉ SB) (hLB : ∀ x ∈ SL, x ∉ SB) (hGB : ∀ x ∈ SG, x ∉ SB) (hxB : xl ∉ SB)
    (hgl : group.length < 2 ^ 40) (hgs : ∀ s ∈ group, s.length < 2 ^ 62) (hroom : 0 ≤ room ∧ room < 2 ^ 30)
    (hbad : ∀ w' e, Kp SB w w' → (addRun g.turn room group [] false).1 = e → e ≠ 0 → R (.int .i64 e) w')
    (hend : ∀ w' SB', Kp SB w w' → (addRun g.turn room group [] false).1 = 0 → Bld w' bb (addRun g.turn room group [] false).2.1 SB' → (∀ x ∈ SB', x ∈ SB ∨ w.heap.size ≤ x) →
      Fn121_s1 R gv (.pointer (some ⟨xl, 0, none⟩)) (.pointer (some ⟨bb, 0, none⟩)) (.bool (addRun g.turn room group [] false).2.2) w') :
    Fn121_s4 R gv (.pointer (some ⟨xl, 0, none⟩)) (.pointer (some ⟨bb, 0, none⟩)) (.int .i64 room) (.bool false) w := by
  unfold Fn121_s4
  rw [hgv.lenL]
  unfold Fn121_L3
  simp only [List.length_map]
  refine loop_inv (fun m xs wi => ∃ i bi fi SBi, i ≤ group.length ∧ m = group.length - i ∧ xs = [gv, .pointer (some ⟨xl, 0, none⟩), .pointer (some ⟨bb, 0, none⟩), .int .i64 room, .bool fi, gv, .int .i64 group.length, .int .i64 (i : Nat)] ∧
      addRun g.turn room group [] false = addRun g.turn room (group.drop i) bi fi ∧ Bld wi bb bi SBi ∧ (bi.length : Int) ≤ room ∧ Kp SB w wi ∧ ∀ x ∈ SBi, x ∈ SB ∨ w.heap.size ≤ x)
    ?_ (m := group.length) ⟨0, [], false, SB, by omega, rfl, rfl, rfl, hB, by simpa using hroom.1, Kp.refl _ _, fun x hx => .inl hx⟩
  rintro m N xs wi ⟨i, bi, fi, SBi, hi, rfl, rfl, hrun, hbi, hbl, hk, hSi⟩ hN
  simp only [Fn121_L3F, Fn121_b2, bq_lss, bV_b]
  refine ⟨fun hlt' => ?_, fun hge => ?_⟩
  · have hi : i < group.length := by simpa using hlt'
    have hiw : IntKind.i64.wrap ((i : Int) + 1) = ((i + 1 : Nat) : Int) := by rw [w64 (by omega) (by omega)]; simp
    have hgi := hgv.keep hk hGB
    obtain ⟨bl, o, T, c, fr, _, hh, hia, _, _, hc⟩ := hgi.at (i := i) (by simpa using hi)
    have h1 : c[o]? = some (.string (str group[i])) := by have := hc 0 (by omega); simpa [strV] using this
    have hxi := hk.get hxl hxB
    have hAi := hk.get h.1 haB
    rw [List.drop_eq_getElem_cons hi] at hrun
    rw [addRun_cons] at hrun
    simp [-getElem?_pos, -Array.getElem?_eq_getElem, -List.length_flatten, gz0, gz1, hia, hh, h1, hxi, hAi]
    refine Frame_spec g.turn group[i] (hgs _ (List.getElem_mem hi)) fun w1 hk1 => ?_
    have hk1' : Kp SB w w1 := hk.trans hk1 (by simp)
    have hb1 := hbi.keep hk1 (by simp)
    have hfl := frame_len_le g.turn group[i]
    have hs1 := hk1'.size
    rw [ex0, ex1]
    simp [-getElem?_pos, -Array.getElem?_eq_getElem, -List.length_flatten, gz0, gz1]
    refine ⟨fun he => ?_, fun he => ?_⟩
    · rw [if_neg he] at hrun
      exact hbad w1 _ hk1' (by rw [hrun]) he
    rw [if_pos he] at hrun
    have write : addRun g.turn room group [] false = addRun g.turn room (group.drop (i + 1)) (bi ++ (frame g.turn group[i]).1) false → ((bi ++ (frame g.turn group[i]).1).length : Int) ≤ room →
        callG prog 59 #[.pointer (some ⟨bb, 0, none⟩), .string (str (frame g.turn group[i]).1)] w1 fun t64 w => N [gv, .pointer (some ⟨xl, 0, none⟩), .pointer (some ⟨bb, 0, none⟩), .int .i64 room, .bool false, gv, .int .i64 group.length, .int .i64 ((i + 1 : Nat) : Int)] w := by
      intro hr hlen
      refine WriteString_spec hb1 _ (by rw [List.length_append] at hlen; omega) fun w2 S2 hb2 hk2 hS2 => ?_
      have hkk : Kp SB w w2 := hk1'.trans hk2 fun x hx hlt => by
        rcases hSi x hx with h | h
        · exact h
        · omega
      refine hN (group.length - (i + 1)) _ _ (by omega) ⟨i + 1, _, false, S2, by omega, rfl, rfl, hr, hb2, hlen, hkk, fun x hx => ?_⟩
      rcases hS2 x hx with h | h
      · exact hSi x h
      · exact .inr (by omega)
    have skip : addRun g.turn room group [] false = addRun g.turn room (group.drop (i + 1)) bi true →
        N [gv, .pointer (some ⟨xl, 0, none⟩), .pointer (some ⟨bb, 0, none⟩), .int .i64 room, .bool true, gv, .int .i64 group.length, .int .i64 ((i + 1 : Nat) : Int)] w1 := fun hr =>
      hN (group.length - (i + 1)) _ _ (by omega) ⟨i + 1, bi, true, SBi, by omega, rfl, rfl, hr, hb1, hbl, hk1', hSi⟩
    rw [hiw]
    refine ⟨fun hf => ?_, fun hf => ?_⟩
    · rw [if_pos (.inl hf)] at hrun
      exact skip hrun
    · refine Len_spec hb1.done ?_
      have hsub : IntKind.i64.wrap (room - (bi.length : Int)) = room - (bi.length : Int) := w64 (by omega) (by omega)
      simp only [bq_sub, hsub, bq_gtr]
      by_cases hbig : ((frame g.turn group[i]).1.length : Int) > room - (bi.length : Int)
      · rw [if_pos (.inr hbig)] at hrun
        simp only [hbig, decide_true]
        simp [-getElem?_pos, -Array.getElem?_eq_getElem, -List.length_flatten, gz0, gz1]
        exact skip hrun
      · rw [if_neg (by rw [hf]; simp; omega)] at hrun
        simp only [hbig, decide_false]
        simp [-getElem?_pos, -Array.getElem?_eq_getElem, -List.length_flatten, gz0, gz1]
        exact write hrun (by rw [List.length_append]; omega)
  · have hie : i = group.length := by simp at hge; omega
    subst hie
    rw [List.drop_length] at hrun
    have h0 : (addRun g.turn room group [] false).1 = 0 := by rw [hrun]; rfl
    have h2 : addRun g.turn room [] bi fi = (0, bi, fi) := rfl
    rw [h2] at hrun
    have := hend wi SBi hk h0 (by rw [hrun]; exact hbi) hSi
    rw [hrun] at this
    exact this
end Go.Proofs

set_option linter.unusedVariables false
set_option linter.unusedSimpArgs false
namespace Go.Proofs
open Go Go.Q
open Tryz (prog)
def roomOf (g : LG) : Int := 32 * (g.hi - g.lo) - g.used.length
def addG (g : LG) (d : DK) (group : List (List UInt8)) : LG × DK × Int :=
  let r := addRun g.turn (roomOf g) group [] false
  if r.1 ≠ 0 then (g, d, r.1)
  else if r.2.2 = true then (g, d, 2)
  else
    let all := g.used ++ r.2.1
    let p := if 0 < r.2.1.length then putN g.lo.toNat all d (g.used.length / 32) ((all.length + 31) / 32 - g.used.length / 32) else (d, 0)
    if p.2 = 0 then ({ g with l := g.l ++ group, used := all }, p.1, 0) else (g, p.1, p.2)
theorem add_s0 {w : World} {a b xa xl : Nat} {g : LG} {SL : List Nat} {lv gv : Value} {group : List (List UInt8)} {SG : List Nat} {all : List UInt8} {R : KW}
    (h : LogIs w a b g SL lv) (hgv : ArgAt w gv 1 (group.map strV) SG) (hxl : w.heap[xl]? = some (.cells #[.pointer (some ⟨a, 0, none⟩)] 56)) (hxa : w.heap[xa]? = some (.cells #[.string (str all)] 9))
    (hgl : g.l.length + group.length < 2 ^ 40) (hxlS : xl ∉ SL) (hxaS : xa ∉ SL) (hne1 : a ≠ xl) (hne2 : a ≠ xa)
    (hR : ∀ w' SL' lv', LogIs w' a b { g with l := g.l ++ group, used := all } SL' lv' → Kp (a :: SL) w w' → (∀ x ∈ SL', x ∈ SL ∨ w.heap.size ≤ x) → R (.int .i64 0) w') :
    Fn121_s0 R gv (.pointer (some ⟨xl, 0, none⟩)) (.pointer (some ⟨xa, 0, none⟩)) w := by
  unfold Fn121_s0
  obtain ⟨hA, hL, haS⟩ := h
  simp [-getElem?_pos, -Array.getElem?_eq_getElem, -List.length_flatten, gz0, gz1, hxl, hxa, hA]
  have hone := strV_one group
  have hgd := hgv.keep (Kp.refl [] w).drew (by simp)
  rw [zc9]
  refine rows_app (k := 1) (z := [.string ⟨#[]⟩]) (G := group.map strV) (hL.keep (Kp.refl [] w).drew (by simp)) (by omega) rfl (fun y hy => hgv.row hy) hone (fun K' hK' => hgd.src K' hK') (by simp; omega) (by simp; omega) fun v2 w2 S2 h2 hk2 hS2 => ?_
  have hkd : Kp SL w w2 := (Kp.refl _ w).drew.trans' hk2
  have hxl2 := hkd.get hxl hxlS
  have hxa2 := hkd.get hxa hxaS
  have hA2 := hkd.get hA haS
  have l2 := live_of hA2
  have hv2 := rows_one h2
  simp [-getElem?_pos, -Array.getElem?_eq_getElem, -List.length_flatten, gz0, gz1, hxl2, hxa2, hA2, l2, hv2, heap_self, heap_ne, hne1, hne2]
  have halive : a < w.heap.size := lt_of_blk hA
  have haS2 : a ∉ S2 := fun hm => by
    rcases hS2 a hm with h | h
    · exact haS h
    · simp only [heap_drew] at h; omega
  have hk3 : Kp [a] w2 (setBlk w2 a (.cells #[.pointer (some ⟨b, 0, none⟩), .int .i64 g.lo, .int .i64 g.hi, .int .i64 g.turn, v2, .string (str all)] 141)) := (Kp.refl _ w2).setBlk (.inl (by simp)) _
  refine hR _ S2 v2 ⟨heap_self l2, ?_, haS2⟩ ?_ ?_
  · show RowsAt _ v2 1 (List.map strV (g.l ++ group)) S2
    rw [List.map_append]
    exact h2.keep hk3 fun x hx => by simp; intro hh; exact haS2 (hh ▸ hx)
  · exact (hkd.mono fun x hx _ => by simp [hx]).trans hk3 fun x hx _ => by simp at hx; simp [hx]
  · intro x hx
    rcases hS2 x hx with h | h
    · exact .inl h
    · exact .inr (by simpa using h)
end Go.Proofs

set_option linter.unusedVariables false
set_option linter.unusedSimpArgs false
namespace Go.Proofs
open Go Go.Q
open Tryz (prog)
theorem zc9' : zc prog 9 = #[.string (str [])] := by kernel_rfl
theorem add_s1 {w : World} {a b bb xl : Nat} {g : LG} {SL S SB SG : List Nat} {lv gv : Value} {group : List (List UInt8)} {d : DK} {r : List UInt8} {full : Bool} {R : KW} {lo : Nat}
    (h : LogIs w a b g SL lv) (hd : DiskAt w b d S) (hgv : ArgAt w gv 1 (group.map strV) SG) (hxl : w.heap[xl]? = some (.cells #[.pointer (some ⟨a, 0, none⟩)] 56)) (hB : Bld w bb r SB)
    (haB : a ∉ SB) (hLB : ∀ x ∈ SL, x ∉ SB) (hGB : ∀ x ∈ SG, x ∉ SB) (hxB : xl ∉ SB) (hSB : ∀ x ∈ S, x ∉ SB) (haS : a ∉ S) (hxlS : xl ∉ S) (hLS : ∀ x ∈ SL, x ∉ S) (hGS : ∀ x ∈ SG, x ∉ S) (hxlL : xl ∉ SL) (hne : a ≠ xl)
    (hgl : g.l.length + group.length < 2 ^ 39) (hlo : g.lo = (lo : Int)) (hlo2 : lo < 2 ^ 40) (hul : g.used.length + r.length < 2 ^ 30) (hdl : d.l.length < 2 ^ 39)
    (hlive : ∀ x ∈ SL ++ S ++ SG, x < w.heap.size)
    (hfull : full = true → R (.int .i64 2) w)
    (hdone : full = false → ∀ w' g' d' e S' SL' lv', (let p := if 0 < r.length then putN lo (g.used ++ r) d (g.used.length / 32) (((g.used ++ r).length + 31) / 32 - g.used.length / 32) else (d, 0)
        d' = p.1 ∧ e = p.2 ∧ g' = if p.2 = 0 then { g with l := g.l ++ group, used := g.used ++ r } else g) →
      LogIs w' a b g' SL' lv' → DiskAt w' b d' S' → (∀ x ∈ S', x ∈ S ∨ w.heap.size ≤ x) → (∀ x ∈ SL', x ∈ SL ∨ w.heap.size ≤ x) → (∀ x ∈ SL', x ∉ S') → a ∉ S' → Kp (a :: (SL ++ S ++ SB)) w w' → R (.int .i64 e) w') :
    Fn121_s1 R gv (.pointer (some ⟨xl, 0, none⟩)) (.pointer (some ⟨bb, 0, none⟩)) (.bool full) w := by
  unfold Fn121_s1
  simp only [bV_b]
  refine ⟨hfull, fun hf => ?_⟩
  have hdone := hdone hf
  have hA := h.1
  have ha : a < w.heap.size := lt_of_blk hA
  have hxlw : xl < w.heap.size := lt_of_blk hxl
  have hall : (str g.used).size + (str r).size < 9223372036854775808 := by simp; omega
  -- what follows, in either order
  have tail : ∀ (wT : World) (xa : Nat), w.heap.size ≤ xa → wT.heap[xa]? = some (.cells #[.string (str (g.used ++ r))] 9) → Kp SB w wT → BldD wT bb r SB → xa ∉ SB →
      (ld1 (.pointer (some ⟨xl, 0, none⟩)) wT fun t73 =>
        nk t73 fun t74 => fa 5 t74 fun t75 => ld1 t75 wT fun t76 => lenS t76 fun t77 =>
        qG prog (bq .quo 3 (.tmp 77) (.const (.int .i64 32)) t77 (.int .i64 32)) wT fun t78 =>
        callG prog 95 #[.pointer (some ⟨bb, 0, none⟩)] wT fun t79 w =>
        qG prog (bq .gtr 3 (.tmp 79) (.const (.int .i64 0)) t79 (.int .i64 0)) w fun t80 =>
        bV t80
        (ld1 (.pointer (some ⟨xl, 0, none⟩)) w fun t81 =>
        ld1 (.pointer (some ⟨xa, 0, none⟩)) w fun t83 =>
        lenS t83 fun t84 =>
        qG prog (bq .add 3 (.tmp 84) (.const (.int .i64 32)) t84 (.int .i64 32)) w fun t85 =>
        qG prog (bq .sub 3 (.tmp 85) (.const (.int .i64 1)) t85 (.int .i64 1)) w fun t86 =>
        qG prog (bq .quo 3 (.tmp 86) (.const (.int .i64 32)) t86 (.int .i64 32)) w fun t87 =>
        qG prog (Instr.makeFunc (.func 97) #[] #[.pointer (some ⟨xa, 0, none⟩), .pointer (some ⟨xl, 0, none⟩)]) w fun t88 =>
        callG prog 96 #[t81, t78, t87, t88] w fun t89 w =>
        qG prog (bq .neq 30 (.tmp 90) (.const (.int .i64 0)) t89 (.int .i64 0)) w fun t91 =>
        bV t91
        (R t89 w)
        (Fn121_s0 R gv (.pointer (some ⟨xl, 0, none⟩)) (.pointer (some ⟨xa, 0, none⟩)) w))
        (Fn121_s0 R gv (.pointer (some ⟨xl, 0, none⟩)) (.pointer (some ⟨xa, 0, none⟩)) w)) := by
    intro wT xa hxaw hxa hk hBT hxaB
    have hxlT := hk.get hxl hxB
    have hAT := hk.get hA haB
    have hAll := h.keep hk haB hLB
    have hdT := hd.keep hk hSB
    have hgT := hgv.keep hk hGB
    simp [-getElem?_pos, -Array.getElem?_eq_getElem, -List.length_flatten, gz0, gz1, hxlT, hAT]
    rw [quo_of (by omega) (by omega)]
    have hq : IntKind.i64.wrap ((g.used.length : Int) / 32) = ((g.used.length / 32 : Nat) : Int) := by rw [w64 (by omega) (by omega)]; simp
    rw [hq]
    refine Len_spec hBT ?_
    simp [-getElem?_pos, -Array.getElem?_eq_getElem, -List.length_flatten, gz0, gz1, hxlT, hxa]
    have hxaS : xa ∉ S := fun hm => by have := hlive xa (by simp [hm]); omega
    have hxaL : xa ∉ SL := fun hm => by have := hlive xa (by simp [hm]); omega
    have hsT := hk.size
    have hkT' : Kp (a :: (SL ++ S ++ SB)) w wT := hk.mono fun x hx _ => by simp [hx]
    have hlen : (g.used ++ r).length = g.used.length + r.length := by simp
    refine ⟨fun hp => ?_, fun h0 => ?_⟩
    · have hr1 : IntKind.i64.wrap (IntKind.i64.wrap ((g.used.length : Int) + (r.length : Int) + 32) - 1) = ((g.used.length + r.length + 31 : Nat) : Int) := by
        rw [w64 (x := (g.used.length : Int) + (r.length : Int) + 32) (by omega) (by omega), w64 (by omega) (by omega)]; omega
      have hq2 : IntKind.i64.wrap (((g.used.length + r.length + 31 : Nat) : Int) / 32) = (((g.used.length + r.length + 31) / 32 : Nat) : Int) := by rw [w64 (by omega) (by omega)]; omega
      have hq3 : (g.used.length : Int) / 32 = ((g.used.length / 32 : Nat) : Int) := by omega
      rw [hr1, quo_of (by omega) (by omega), hq2, mk_func, hq3]
      refine add_sectors hAll hdT hxa hxlT (first := g.used.length / 32) (last := (g.used.length + r.length + 31) / 32) hlo (by rw [hlen]; omega) (by omega) (by rw [hlen]; omega) hlo2 (by omega) haS hxaS hxlS hLS fun w' S' hd' hk' hS' => ?_
      have hS'w : ∀ x ∈ S', x ∈ S ∨ w.heap.size ≤ x := fun x hx => by
        rcases hS' x hx with h | h
        · exact .inl h
        · exact .inr (by omega)
      have hk'' : Kp (a :: (SL ++ S ++ SB)) w w' := hkT'.trans hk' fun x hx _ => by simp [hx]
      have hL' := hAll.keep hk' haS hLS
      have haS' : a ∉ S' := fun hm => by
        rcases hS'w a hm with h | h
        · exact haS h
        · omega
      have hLS' : ∀ x ∈ SL, x ∉ S' := fun x hx hm => by
        rcases hS'w x hm with h | h
        · exact hLS x hx h
        · have := hlive x (by simp [hx]); omega
      rw [hlen] at hdone
      rw [if_pos hp] at hdone
      simp [-getElem?_pos, -Array.getElem?_eq_getElem, -List.length_flatten, gz0, gz1]
      refine ⟨fun he => ?_, fun he => ?_⟩
      · exact hdone w' g _ _ S' SL lv ⟨rfl, rfl, by rw [if_neg he]⟩ hL' hd' hS'w (fun x hx => .inl hx) hLS' haS' hk''
      · refine add_s0 hL' (hgT.keep hk' hGS) (hk'.get hxlT hxlS) (hk'.get hxa hxaS) (by omega) hxlL hxaL hne (by omega) fun w9 SL' lv' hL9 hk9 hS9 => ?_
        have hsz' := hk'.size
        have hnS : ∀ x ∈ a :: SL, x ∉ S' := fun x hx => by
          rcases List.mem_cons.1 hx with rfl | hx
          · exact haS'
          · exact hLS' x hx
        have hS'live : ∀ x ∈ S', x < w'.heap.size := fun x hx => by
          obtain ⟨bs, bn, lv, SL, T, Ts, Tn, rfl, hd⟩ := hd'
          exact hd.live x hx
        refine hdone w9 _ _ _ S' SL' lv' ⟨rfl, rfl, by rw [if_pos he]⟩ hL9 (hd'.keep hk9 fun x hx hm => hnS x hm hx) hS'w (fun x hx => ?_) (fun x hx hm => ?_) haS' (hk''.trans hk9 fun x hx _ => ?_) |> fun hR => by rw [he] at hR; exact hR
        · rcases hS9 x hx with h | h
          · exact .inl h
          · exact .inr (by omega)
        · rcases hS9 x hx with h | h
          · exact hLS' x h hm
          · have := hS'live x hm; omega
        · rcases List.mem_cons.1 hx with rfl | hx
          · simp
          · simp [hx]
    · rw [if_neg (by rw [h0]; simp)] at hdone
      refine add_s0 hAll hgT hxlT hxa (by omega) hxlL hxaL hne (by omega) fun w9 SL' lv' hL9 hk9 hS9 => ?_
      refine hdone w9 _ _ _ S SL' lv' ⟨rfl, rfl, by rw [if_pos rfl]⟩ hL9 (hdT.keep hk9 fun x hx hm => ?_) (fun x hx => .inl hx) (fun x hx => ?_) (fun x hx hm => ?_) haS (hkT'.trans hk9 fun x hx _ => ?_)
      · rcases List.mem_cons.1 hm with rfl | hm
        · exact haS hx
        · exact hLS x hm hx
      · rcases hS9 x hx with h | h
        · exact .inl h
        · exact .inr (by omega)
      · rcases hS9 x hx with h | h
        · exact hLS x h hm
        · have := hlive x (by simp [hm]); omega
      · rcases List.mem_cons.1 hx with rfl | hx
        · simp
        · simp [hx]
  have hxlx : ∀ K : Value → Prop, ld1 (.pointer (some ⟨xl, 0, none⟩)) w.drew K = K (.pointer (some ⟨a, 0, none⟩)) := by intro K; simp [hxl]
  simp [-getElem?_pos, -Array.getElem?_eq_getElem, -List.length_flatten, gz0, gz1, hxl, hA]
  refine ⟨?_, ?_⟩
  · refine String_spec (hB.done.keep (Kp.refl [] w).drew (by simp)) (by omega) fun w1 hB1 hk1 => ?_
    have hk1' : Kp SB w w1 := (Kp.refl _ w).drew.trans' hk1
    have hA1 := hk1'.get hA haB
    have hxl1 := hk1'.get hxl hxB
    have ha1 := live_of hA1
    have hxlv1 := live_of hxl1
    rw [bq_sadd hall]
    have hst : ∀ w', stb prog (bq .add 9 (.tmp 70) (.tmp 71) (.string (str g.used)) (.string (str r))) (.string (str g.used ++ str r)) w' := fun w' => by rw [stb_of (run_sadd hall)]
    have hsz := hk1'.size
    simp [-getElem?_pos, -Array.getElem?_eq_getElem, -List.length_flatten, gz0, gz1, hA1, hxl1, heap_old, ha1, hxlv1, heap_new, zc9', -str_append]
    refine ⟨by simpa using hst _, ?_⟩
    have hkn : Kp [] w1 (w1.alloc (.cells #[.string (str (g.used ++ r))] 9)) := (Kp.refl [] w1).alloc _
    have ht := tail _ w1.heap.size (by omega) (heap_new (w := w1) (o := .cells #[.string (str (g.used ++ r))] 9)) (hk1'.trans hkn (by simp)) (hB1.keep hkn (by simp)) (fun hm => by have := hB.live _ hm; omega)
    simpa [-getElem?_pos, -Array.getElem?_eq_getElem, -List.length_flatten, gz0, gz1, hA1, hxl1, heap_old, ha1, hxlv1, heap_new, zc9'] using ht
  · simp [-getElem?_pos, -Array.getElem?_eq_getElem, -List.length_flatten, gz0, gz1, zc9', heap_old, (show Live w.drew a from ha), (show Live w.drew xl from hxlw), hA, hxl]
    obtain ⟨w1, hw1⟩ : ∃ w1, w1 = (w.alloc (.cells #[.string (str [])] 9)) := ⟨_, rfl⟩
    have hk1 : Kp [] w w1 := by rw [hw1]; exact (Kp.refl [] w).alloc _
    have hX1 : w1.heap[w.heap.size]? = some (.cells #[.string (str [])] 9) := by rw [hw1]; exact heap_new
    have hA1 := hk1.get hA (by simp)
    have hxl1 := hk1.get hxl (by simp)
    rw [← hw1]
    have hXB : w.heap.size ∉ SB := fun hm => by have := hB.live _ hm; omega
    simp [-getElem?_pos, -Array.getElem?_eq_getElem, -List.length_flatten, gz0, gz1, hA1, hxl1]
    refine String_spec ((hB.done.keep hk1 (by simp)).keep (Kp.refl [] w1).drew (by simp)) (by omega) fun w2 hB2 hk2 => ?_
    have hk2' : Kp SB w w2 := (hk1.mono (by simp)).trans ((Kp.refl _ w1).drew.trans' hk2) fun x hx _ => hx
    have hk12 : Kp SB w1 w2 := (Kp.refl _ w1).drew.trans' hk2
    have hA2 := hk2'.get hA haB
    have hxl2 := hk2'.get hxl hxB
    have hX2 := hk12.get hX1 hXB
    have lX2 := live_of hX2
    have hneX : ¬ w.heap.size = xl := by omega
    have hneA : ¬ w.heap.size = a := by omega
    rw [bq_sadd hall]
    have hkX : Kp [w.heap.size] w2 (setBlk w2 w.heap.size (.cells #[.string (str (g.used ++ r))] 9)) := (Kp.refl _ w2).setBlk (.inl (by simp)) _
    have ht := tail (setBlk w2 w.heap.size (.cells #[.string (str (g.used ++ r))] 9)) w.heap.size (Nat.le_refl _) (heap_self lX2) (hk2'.trans hkX fun x hx hlt => by simp at hx; omega) (hB2.keep hkX fun x hx => by simp; intro hh; exact hXB (hh ▸ hx)) hXB
    simpa [-getElem?_pos, -Array.getElem?_eq_getElem, -List.length_flatten, gz0, gz1, hA2, hxl2, hX2, lX2, heap_self, heap_ne, hneX, hneA] using ht
end Go.Proofs

set_option linter.unusedVariables false
set_option linter.unusedSimpArgs false
namespace Go.Proofs
open Go Go.Q
open Tryz (prog)
theorem Add_spec {w : World} {a b : Nat} {g : LG} {SL S SG : List Nat} {lv gv : Value} {group : List (List UInt8)} {d : DK} {lo hi : Nat}
    (h : LogIs w a b g SL lv) (hd : DiskAt w b d S) (hgv : ArgAt w gv 1 (group.map strV) SG)
    (haS : a ∉ S) (hLS : ∀ x ∈ SL, x ∉ S) (hGS : ∀ x ∈ SG, x ∉ S) (hlive : ∀ x ∈ SL ++ S ++ SG, x < w.heap.size)
    (hgl : g.l.length + group.length < 2 ^ 39) (hgs : ∀ s ∈ group, s.length < 2 ^ 62) (hlo : g.lo = (lo : Int)) (hhi : g.hi = (hi : Int)) (hlh : lo ≤ hi) (hhi2 : hi ≤ 4096) (hroom : (g.used.length : Int) ≤ 32 * (hi - lo)) (hdl : d.l.length < 2 ^ 39) {K : KW}
    (hK : ∀ w' g' d' e S' SL' lv', (g', d', e) = addG g d group → LogIs w' a b g' SL' lv' → DiskAt w' b d' S' → (∀ x ∈ S', x ∈ S ∨ w.heap.size ≤ x) → (∀ x ∈ SL', x ∈ SL ∨ w.heap.size ≤ x) → (∀ x ∈ SL', x ∉ S') → a ∉ S' →
      Kp (a :: (SL ++ S)) w w' → K (.int .i64 e) w') : callG prog 44 #[.pointer (some ⟨a, 0, none⟩), gv] w K := by
  refine Fn121_call ?_
  simp only [Fn121, Fn121_s5]
  rw [newG_k]
  obtain ⟨n, hn⟩ : ∃ n, n = w.heap.size := ⟨_, rfl⟩
  obtain ⟨w1, hw1⟩ : ∃ w1, w1 = w.alloc (.cells (Value.cells (.pointer (some ⟨a, 0, none⟩))) 56) := ⟨_, rfl⟩
  have hk1 : Kp [] w w1 := by rw [hw1]; exact (Kp.refl [] w).alloc _
  have hX1 : w1.heap[n]? = some (.cells #[.pointer (some ⟨a, 0, none⟩)] 56) := by rw [hw1, hn]; exact heap_new
  have hs1 : w1.heap.size = n + 1 := by rw [hw1, hn]; simp
  rw [← hn, ← hw1]
  have h1 := h.keep hk1 (by simp) (by simp)
  have hA1 := h1.1
  simp only [ld1_p, rd1_mk, hX1]
  have hget : (#[Value.pointer (some ⟨a, 0, none⟩)] : Array Value)[0]? = some (.pointer (some ⟨a, 0, none⟩)) := rfl
  simp only [hget]
  refine given_spec h1 ?_
  obtain ⟨w2, hw2⟩ : ∃ w2, w2 = w1.alloc (.cells #[.pointer none, .slice none 0 0] 110) := ⟨_, rfl⟩
  have hk2 : Kp [] w1 w2 := by rw [hw2]; exact (Kp.refl [] w1).alloc _
  have hB2 : Bld w2 (n + 1) [] [n + 1] := by rw [hw2, ← hs1]; exact bld_new
  have hs2 : w2.heap.size = n + 2 := by rw [hw2]; simp [hs1]
  have hX2 := hk2.get hX1 (by simp)
  have h2 := h1.keep hk2 (by simp) (by simp)
  have hA2 := h2.1
  simp [-getElem?_pos, -Array.getElem?_eq_getElem, -List.length_flatten, gz0, gz1, zc107]
  rw [← hw2, hs1]
  have e1 : IntKind.i64.wrap (g.hi - g.lo) = g.hi - g.lo := w64 (by omega) (by omega)
  have e2 : IntKind.i64.wrap (32 * (g.hi - g.lo)) = 32 * (g.hi - g.lo) := w64 (by omega) (by omega)
  have e3 : IntKind.i64.wrap (32 * (g.hi - g.lo) - (g.used.length : Int)) = 32 * (g.hi - g.lo) - (g.used.length : Int) := w64 (by omega) (by omega)
  simp [-getElem?_pos, -Array.getElem?_eq_getElem, -List.length_flatten, gz0, gz1, hX2, hA2, e1, e2, e3]
  have hr : 32 * (g.hi - g.lo) - (g.used.length : Int) = roomOf g := rfl
  rw [hr]
  have hroom0 : 0 ≤ roomOf g ∧ roomOf g < 2 ^ 30 := by unfold roomOf; omega
  have hk3 : Kp [] w w2.drew := (hk1.trans' hk2).drew
  have hk2d : Kp [] w2 w2.drew := (Kp.refl _ _).drew
  have hlv : ∀ x, x ∈ SL ++ S ++ SG → x < n := fun x hx => by have := hlive x hx; omega
  have han : a < n := by have := lt_of_blk h.1; omega
  have hgv3 := hgv.keep hk3 (by simp)
  have hd3 := hd.keep hk3 (by simp)
  have h3 := h2.keep hk2d (by simp) (by simp)
  have hX3 := hk2d.get hX2 (by simp)
  have hB3 := hB2.keep hk2d (by simp)
  have hs3 : w2.drew.heap.size = n + 2 := hs2
  have hno : ∀ x, x ∈ SL ++ S ++ SG → x ∉ [n + 1] := fun x hx hm => by have := hlv x hx; simp at hm; omega
  refine add_loop h3 hgv3 hX3 hB3 (by simp; omega) (fun x hx => hno x (by simp [hx])) (fun x hx => hno x (by simp [hx])) (by simp) (by omega) hgs hroom0 ?_ ?_
  · intro w' e hk he hne
    have hk' : Kp [] w w' := hk3.trans hk fun x hx hlt => by simp at hx; omega
    refine hK w' g d e S SL lv ?_ (h.keep hk' (by simp) (by simp)) (hd.keep hk' (by simp)) (fun x hx => .inl hx) (fun x hx => .inl hx) hLS haS (hk'.mono (by simp))
    unfold addG
    simp only [he]
    rw [if_pos hne]
  · intro w' SB' hk he hB' hSB'
    have hk' : Kp [] w w' := hk3.trans hk fun x hx hlt => by simp at hx; omega
    have hSBn : ∀ x ∈ SB', n + 1 ≤ x := fun x hx => by
      rcases hSB' x hx with h | h
      · simp at h; omega
      · omega
    have hnoB : ∀ x, x ∈ SL ++ S ++ SG → x ∉ SB' := fun x hx hm => by have := hlv x hx; have := hSBn x hm; omega
    have hsz := hk'.size
    have hlen := addRun_len g.turn (roomOf g) hroom0.1 group [] false (by simpa using hroom0.1)
    have hrm : (g.used.length : Int) + roomOf g = 32 * (g.hi - g.lo) := by unfold roomOf; omega
    refine add_s1 (h.keep hk' (by simp) (by simp)) (hd.keep hk' (by simp)) (hgv.keep hk' (by simp)) (hk.get hX3 (by simp)) hB' (fun hm => by have := hSBn _ hm; omega) (fun x hx => hnoB x (by simp [hx])) (fun x hx => hnoB x (by simp [hx])) (fun hm => by have := hSBn _ hm; omega)
      (fun x hx => hnoB x (by simp [hx])) haS (fun hm => by have := hlv n (by simp [hm]); omega) hLS hGS (fun hm => by have := hlv n (by simp [hm]); omega) (by omega) hgl hlo (by omega) (by omega) hdl (fun x hx => by have := hlv x hx; omega) ?_ ?_
    · intro hf
      refine hK w' g d 2 S SL lv ?_ (h.keep hk' (by simp) (by simp)) (hd.keep hk' (by simp)) (fun x hx => .inl hx) (fun x hx => .inl hx) hLS haS (hk'.mono (by simp))
      unfold addG
      simp only [he, hf]
      rfl
    · intro hf w9 g' d' e S' SL' lv' hp hL9 hd9 hS9 hSL9 hLS9 haS9 hk9
      obtain ⟨p1, p2, p3⟩ := hp
      refine hK w9 g' d' e S' SL' lv' ?_ hL9 hd9 (fun x hx => ?_) (fun x hx => ?_) hLS9 haS9 ((hk'.mono (S' := a :: (SL ++ S)) (by simp)).trans hk9 fun x hx hlt => ?_)
      · have hlt : g.lo.toNat = lo := by omega
        obtain ⟨rr, hrr⟩ : ∃ rr, rr = (addRun g.turn (roomOf g) group [] false).2.1 := ⟨_, rfl⟩
        rw [← hrr] at p1 p2 p3
        obtain ⟨P, hP⟩ : ∃ P, P = (if 0 < rr.length then putN lo (g.used ++ rr) d (g.used.length / 32) (((g.used ++ rr).length + 31) / 32 - g.used.length / 32) else (d, 0)) := ⟨_, rfl⟩
        rw [← hP] at p1 p2 p3
        have hg : addG g d group = if P.2 = 0 then ({ g with l := g.l ++ group, used := g.used ++ rr }, P.1, 0) else (g, P.1, P.2) := by
          unfold addG
          simp only [he, hf, hlt, ← hrr, ← hP]
          simp
        rw [hg, p1, p2, p3]
        by_cases h0 : P.2 = 0
        · rw [if_pos h0, if_pos h0, h0]
        · rw [if_neg h0, if_neg h0]
      · rcases hS9 x hx with h | h
        · exact .inl h
        · exact .inr (by omega)
      · rcases hSL9 x hx with h | h
        · exact .inl h
        · exact .inr (by omega)
      · rcases List.mem_cons.1 hx with rfl | hx
        · simp
        · rcases List.mem_append.1 hx with hx | hx
          · simp at hx; rcases hx with hx | hx <;> simp [hx]
          · have := hSBn x hx; omega
end Go.Proofs

set_option linter.unusedVariables false
set_option linter.unusedSimpArgs false
namespace Go.Proofs
open Go Go.Q
open Tryz (prog)
theorem lenAt_frame (t : Int) (s : List UInt8) (h : s.length ≤ 1024) : lenAt (frameB t s) = s.length := by
  have h0 : (putB (s.length : Int) 0).toNat = s.length % 256 := by unfold putB; simp; omega
  have h1 : (putB (s.length : Int) 1).toNat = s.length / 256 % 256 := by unfold putB; simp; omega
  have e : lenAt (frameB t s) = (putB (s.length : Int) 0).toNat + (putB (s.length : Int) 1).toNat * 2 ^ 8 := by
    simp [lenAt, frameB, headOf, put4, List.getD]
  rw [e, h0, h1]; omega
theorem burns_calm {d : DK} (h1 : d.off = false) (h2 : d.fuse = -1) : d.burns = (d, true) := by
  cases d
  simp only at h1 h2
  subst h1; subst h2
  simp [DK.burns]
theorem write_calm {d : DK} (h1 : d.off = false) (h2 : d.fuse = -1) {i : Nat} (hi : i < d.now.length) {s : List UInt8} (hs : s.length = 32) :
    d.write i s = ({ d with now := d.now.set i s, l := d.l ++ [(i, s)] }, 0) := by
  unfold DK.write
  rw [burns_calm h1 h2, if_pos ⟨⟨by omega, by omega⟩, hs⟩, if_pos rfl]
  simp
theorem flush_calm {d : DK} (h1 : d.off = false) (h2 : d.fuse = -1) : d.flush = ({ d with sure := applyAll d.sure d.l, l := [] }, 0) := by
  unfold DK.flush
  rw [burns_calm h1 h2, if_pos rfl]
structure Calm (d : DK) : Prop where
  off : d.off = false
  fuse : d.fuse = -1
theorem putN_l (lo : Nat) (all : List UInt8) : ∀ (n : Nat) (d : DK) (k : Nat), (putN lo all d k n).1.l.length ≤ d.l.length + n := by
  intro n
  induction n with
  | zero => intro d k; simp [putN]
  | succ n ih =>
    intro d k
    have h := putK_l d lo all k
    unfold putN
    split
    · have := ih (putK d lo all k).1 (k + 1); omega
    · omega
def fr (t : Int) (l : List (List UInt8)) : List UInt8 := (l.map (frameB t)).flatten
theorem fr_append (t : Int) (a b : List (List UInt8)) : fr t (a ++ b) = fr t a ++ fr t b := by simp [fr]
theorem fr_cons (t : Int) (a : List UInt8) (b : List (List UInt8)) : fr t (a :: b) = frameB t a ++ fr t b := by simp [fr]
theorem fr_len (t : Int) (l : List (List UInt8)) : (fr t l).length = usedOf l := by
  induction l with
  | nil => rfl
  | cons a l ih => rw [fr_cons, List.length_append, ih, frameB_len]; simp [usedOf]
def Recs (l : List (List UInt8)) : Prop := ∀ s ∈ l, s ≠ [] ∧ s.length ≤ 1024
theorem frame_rec {t : Int} (ht : turnOk t = true) {s : List UInt8} (h : s ≠ [] ∧ s.length ≤ 1024) : frame t s = (frameB t s, 0) := by
  unfold frame; rw [if_pos ⟨ht, h⟩]
theorem addRun_fits {t room : Int} (ht : turnOk t = true) : ∀ (l : List (List UInt8)) (b : List UInt8), Recs l → (b.length : Int) + (usedOf l : Nat) ≤ room → addRun t room l b false = (0, b ++ fr t l, false) := by
  intro l
  induction l with
  | nil => intro b _ _; simp [addRun, fr]
  | cons s l ih =>
    intro b h hl
    have hs := frame_rec ht (h s (by simp))
    have hu : usedOf (s :: l) = 10 + s.length + usedOf l := by simp [usedOf]
    rw [hu] at hl
    have hfl := frameB_len t s
    rw [addRun_cons, hs, if_pos rfl, if_neg (by simp; omega), ih _ (fun x hx => h x (by simp [hx])) (by rw [List.length_append]; simp only; omega), fr_cons]
    simp
theorem scanL_frame {t : Int} (ht : turnOk t = true) {s : List UInt8} (h : s ≠ [] ∧ s.length ≤ 1024) (r : List UInt8) : nextOk t (frameB t s ++ r) = true ∧ recOf (frameB t s ++ r) = s ∧ lenAt (frameB t s ++ r) = s.length := by
  have hl := frameB_len t s
  have hla := lenAt_frame t s h.2
  have hs : s.length ≠ 0 := by simpa using h.1
  have hgd : ∀ i, i < (frameB t s).length → (frameB t s ++ r).getD i 0 = (frameB t s).getD i 0 := by
    intro i hi
    simp only [List.getD_eq_getElem?_getD]
    rw [List.getElem?_append_left hi]
  have hla2 : lenAt (frameB t s ++ r) = s.length := by
    rw [← hla]
    unfold lenAt
    rw [hgd 4 (by omega), hgd 5 (by omega)]
  have hrec : recOf (frameB t s ++ r) = s := by
    unfold recOf
    rw [hla2, List.drop_append_of_le_length (by omega), List.take_append_of_le_length (by rw [List.length_drop]; omega)]
    have : (frameB t s).drop 10 = s := by
      unfold frameB
      rw [List.drop_left' (by simp [headOf_len, put4_len])]
    rw [this, List.take_length]
  refine ⟨?_, hrec, hla2⟩
  refine (next_frame t _).2 ⟨by rw [List.length_append]; omega, by omega, by omega, by rw [List.length_append]; omega, ?_⟩
  rw [hrec, hla2, frame_rec ht h, List.take_append_of_le_length (by omega), List.take_of_length_le (by omega)]
theorem scanL_fuel (t : Int) : ∀ (n m : Nat) (s : List UInt8), s.length ≤ n → s.length ≤ m → scanL t n s = scanL t m s := by
  intro n
  induction n with
  | zero =>
    intro m s h _
    have : s = [] := List.length_eq_zero_iff.1 (by omega)
    subst this
    cases m with
    | zero => rfl
    | succ m => unfold scanL; rw [if_neg (by simp [nextOk])]
  | succ n ih =>
    intro m s h1 h2
    cases m with
    | zero =>
      have : s = [] := List.length_eq_zero_iff.1 (by omega)
      subst this
      unfold scanL; rw [if_neg (by simp [nextOk])]
    | succ m =>
      unfold scanL
      split
      · rw [ih m _ (by rw [List.length_drop]; omega) (by rw [List.length_drop]; omega)]
      · rfl
theorem scan_fr {t : Int} (ht : turnOk t = true) : ∀ (l : List (List UInt8)) (r : List UInt8), Recs l → scan t (fr t l ++ r) = l ++ scan t r := by
  intro l
  induction l with
  | nil => intro r _; rfl
  | cons s l ih =>
    intro r h
    have hs := h s (by simp)
    obtain ⟨h1, h2, h3⟩ := scanL_frame ht hs (fr t l ++ r)
    have hl := frameB_len t s
    have hi := ih r fun x hx => h x (by simp [hx])
    have key : scan t (frameB t s ++ (fr t l ++ r)) = s :: scan t (fr t l ++ r) := by
      unfold scan
      obtain ⟨n, hn⟩ : ∃ n, (frameB t s ++ (fr t l ++ r)).length = n + 1 := ⟨(frameB t s ++ (fr t l ++ r)).length - 1, by rw [List.length_append]; omega⟩
      have hn' : (fr t l ++ r).length ≤ n := by rw [List.length_append] at hn; omega
      rw [hn]
      conv => lhs; unfold scanL
      rw [if_pos h1, h2, h3, List.drop_left' hl, scanL_fuel t n _ _ hn' (Nat.le_refl _)]
    rw [fr_cons, List.append_assoc, key, hi]
    rfl
end Go.Proofs

set_option linter.unusedVariables false
set_option linter.unusedSimpArgs false
namespace Go.Proofs
open Go Go.Q
open Tryz (prog)
structure Own (w0 w : World) (b : Nat) (d : DK) (S : List Nat) : Prop where
  at_ : DiskAt w b d S
  kp : Kp [] w0 w
  new : ∀ x ∈ S, w0.heap.size ≤ x
theorem Own.keep {w0 w w' : World} {b : Nat} {d : DK} {S : List Nat} (h : Own w0 w b d S) (hk : Kp [] w w') : Own w0 w' b d S := ⟨h.at_.keep hk (by simp), h.kp.trans' hk, h.new⟩
structure OL (w0 w : World) (a b : Nat) (g : LG) (d : DK) (B : List Nat) : Prop where
  ex : ∃ S SL lv, B = a :: (SL ++ S) ∧ DiskAt w b d S ∧ LogIs w a b g SL lv ∧ a ∉ S ∧ ∀ x ∈ SL, x ∉ S
  kp : Kp [] w0 w
  new : ∀ x ∈ B, w0.heap.size ≤ x
theorem DiskAt.live {w : World} {b : Nat} {d : DK} {S : List Nat} (h : DiskAt w b d S) : ∀ x ∈ S, x < w.heap.size := by
  obtain ⟨bs, bn, lv, SL, T, Ts, Tn, rfl, hd⟩ := h
  exact hd.live
theorem DiskAt.ok {w : World} {b : Nat} {d : DK} {S : List Nat} (h : DiskAt w b d S) : d.Ok := by
  obtain ⟨bs, bn, lv, SL, T, Ts, Tn, rfl, hd⟩ := h
  exact hd.ok
section
variable {w0 w w' : World} {a b : Nat} {g : LG} {d : DK} {B : List Nat}
theorem OL.live (h : OL w0 w a b g d B) : ∀ x ∈ B, x < w.heap.size := by
  obtain ⟨S, SL, lv, rfl, hd, hL, h1, h2⟩ := h.ex
  intro x hx
  rcases List.mem_cons.1 hx with rfl | hx
  · exact lt_of_blk hL.1
  · rcases List.mem_append.1 hx with hx | hx
    · exact hL.2.1.lt x hx
    · exact hd.live x hx
theorem OL.keep (h : OL w0 w a b g d B) {S' : List Nat} (hk : Kp S' w w') (hd : ∀ x ∈ B, x ∉ S') (h0 : Kp [] w0 w') : OL w0 w' a b g d B := by
  obtain ⟨S, SL, lv, rfl, hd', hL, h1, h2⟩ := h.ex
  exact ⟨⟨S, SL, lv, rfl, hd'.keep hk fun x hx => hd x (by simp [hx]), hL.keep hk (hd a (by simp)) fun x hx => hd x (by simp [hx]), h1, h2⟩, h0, h.new⟩
theorem OL.keep0 (h : OL w0 w a b g d B) (hk : Kp [] w w') : OL w0 w' a b g d B := h.keep hk (by simp) (h.kp.trans' hk)
theorem OL.ok (h : OL w0 w a b g d B) : d.Ok := by
  obtain ⟨S, SL, lv, rfl, hd, hL, h1, h2⟩ := h.ex
  exact hd.ok
theorem OL.turn {S' : List Nat} (h : OL w0 w a b g d B) (hk : Kp S' w w') (hS : ∀ x ∈ S', x ∈ B) : Kp [] w0 w' := h.kp.trans hk fun x hx hlt => by have := h.new x (hS x hx); omega
theorem ol_add (h : OL w0 w a b g d B) {gv : Value} {group : List (List UInt8)} {SG : List Nat} (hgv : ArgAt w gv 1 (group.map strV) SG) (hGS : ∀ x ∈ SG, x ∉ B) (hGl : ∀ x ∈ SG, x < w.heap.size) {lo hi : Nat}
    (hgl : g.l.length + group.length < 2 ^ 39) (hgs : ∀ s ∈ group, s.length < 2 ^ 62) (hlo : g.lo = (lo : Int)) (hhi : g.hi = (hi : Int)) (hlh : lo ≤ hi) (hhi2 : hi ≤ 4096) (hroom : (g.used.length : Int) ≤ 32 * (hi - lo)) (hdl : d.l.length < 2 ^ 39) {K : KW}
    (hK : ∀ w' B', OL w0 w' a b (addG g d group).1 (addG g d group).2.1 B' → Kp B w w' → (∀ x ∈ B', x ∈ B ∨ w.heap.size ≤ x) → K (.int .i64 (addG g d group).2.2) w') :
    callG prog 44 #[.pointer (some ⟨a, 0, none⟩), gv] w K := by
  have hlv := h.live
  have hkp := h.kp
  have hnew := h.new
  obtain ⟨S, SL, lv, rfl, hd, hL, h1, h2⟩ := h.ex
  refine Add_spec (lo := lo) (hi := hi) hL hd hgv h1 h2 (fun x hx hm => hGS x hx (by simp [hm])) (fun x hx => ?_) hgl hgs hlo hhi hlh hhi2 hroom hdl fun w' g' d' e S' SL' lv' hres hL' hd' hS' hSL' hLS' haS' hk' => ?_
  · rcases List.mem_append.1 hx with hx | hx
    · exact hlv x (by simpa using Or.inr (by simpa using hx))
    · exact hGl x hx
  · have e1 : (addG g d group).1 = g' := by rw [← hres]
    have e2 : (addG g d group).2.1 = d' := by rw [← hres]
    have e3 : (addG g d group).2.2 = e := by rw [← hres]
    rw [e1, e2, e3] at hK
    have hsz := hkp.size
    refine hK w' (a :: (SL' ++ S')) ⟨⟨S', SL', lv', rfl, hd', hL', haS', hLS'⟩, hkp.trans hk' fun x hx hlt => by have := hnew x hx; omega, fun x hx => ?_⟩ hk' (fun x hx => ?_)
    · rcases List.mem_cons.1 hx with rfl | hx
      · exact hnew _ (by simp)
      · rcases List.mem_append.1 hx with hx | hx
        · rcases hSL' x hx with h | h
          · exact hnew x (by simp [h])
          · omega
        · rcases hS' x hx with h | h
          · exact hnew x (by simp [h])
          · omega
    · rcases List.mem_cons.1 hx with rfl | hx
      · exact .inl (by simp)
      · rcases List.mem_append.1 hx with hx | hx
        · exact (hSL' x hx).imp (fun h => by simp [h]) id
        · exact (hS' x hx).imp (fun h => by simp [h]) id
theorem ol_sync (h : OL w0 w a b g d B) (hl : d.l.length < 2 ^ 40) {K : KW}
    (hK : ∀ w', OL w0 w' a b g d.flush.1 B → Kp B w w' → K (.int .i64 d.flush.2) w') : callG prog 49 #[.pointer (some ⟨a, 0, none⟩)] w K := by
  have hT := @OL.turn w0 w
  have h' := h
  obtain ⟨S, SL, lv, rfl, hd, hL, h1, h2⟩ := h.ex
  refine Sync_spec hL hd hl fun w' hd' hk' => ?_
  have hkB : Kp (a :: (SL ++ S)) w w' := hk'.mono fun x hx _ => by simp [hx]
  exact hK w' ⟨⟨S, SL, lv, rfl, hd', hL.keep hk' h1 h2, h1, h2⟩, hT h' hkB (fun x hx => hx), h'.new⟩ hkB
theorem ol_open {S : List Nat} (o : Own w0 w b d S) (hoff : d.off = false) {lo hi : Nat} (hlh : lo < hi) (hhi : hi ≤ d.now.length) {turn : Int} (ht : turnOk turn = true) {K : KW}
    (hK : ∀ w' a B, OL w0 w' a b ⟨lo, hi, turn, scan turn (allOf d lo (hi - lo)), (allOf d lo (hi - lo)).take (usedOf (scan turn (allOf d lo (hi - lo))))⟩ d B → Kp [] w w' → (∀ x ∈ B, x ∈ S ∨ w.heap.size ≤ x) → (∀ x ∈ S, x ∈ B) →
      K (.tuple #[.pointer (some ⟨a, 0, none⟩), .int .i64 0]) w') : callG prog 84 #[.pointer (some ⟨b, 0, none⟩), .int .i64 lo, .int .i64 hi, .int .i64 turn] w K := by
  refine Open_ok o.at_ hoff hlh hhi ht fun w' a lv SL hL hk ha hSL => ?_
  have hlS := o.at_.live
  have hs := o.kp.size
  refine hK w' a (a :: (SL ++ S)) ⟨⟨S, SL, lv, rfl, o.at_.keep hk (by simp), hL, fun hm => by have := hlS a hm; omega, fun x hx hm => by have := hlS x hm; have := hSL x hx; omega⟩, o.kp.trans' hk, fun x hx => ?_⟩ hk (fun x hx => ?_) (fun x hx => by simp [hx])
  · rcases List.mem_cons.1 hx with rfl | hx
    · omega
    · rcases List.mem_append.1 hx with hx | hx
      · have := hSL x hx; omega
      · exact o.new x hx
  · rcases List.mem_cons.1 hx with rfl | hx
    · exact .inr ha
    · rcases List.mem_append.1 hx with hx | hx
      · exact .inr (hSL x hx)
      · exact .inl hx
end
end Go.Proofs

set_option linter.unusedVariables false
set_option linter.unusedSimpArgs false
namespace Go.Proofs
open Go Go.Q Tryz
set_option maxRecDepth 100000
def Fn106_s0 (R : KW) (x0 x1 : Value) (w : World) : Prop :=
 nk x0 fun t10 =>
 fa 1 t10 fun t11 =>
 ld1 t11 (World.drew w) fun t12 =>
 qG prog (Builtin.cap_ #[96] 3 #[t12]) (World.drew w) fun t13 =>
 nk x0 fun t15 =>
 fa 1 t15 fun t16 =>
 ld1 t16 (World.drew w) fun t17 =>
 lenL t17 fun t18 =>
 qG prog (bq .sub 3 (.tmp 13) (.tmp 18) t13 t18) (World.drew w) fun t19 =>
 qG prog (bq .lss 3 (.tmp 19) (.tmp 20) t19 x1) (World.drew w) fun t21 =>
 bV t21
 (callG prog 141 #[x0, x1] (World.drew w) fun t24 w =>
 R (.tuple #[]) w)
 (R (.tuple #[]) (World.drew w))
theorem Fn106_s0_eq (R : KW) : ∀ e w, liK 25 (sbK f127 [1, 1]) (fiK f127 R) e w = Fn106_s0 R (e 0) (e 1) w := fun e w => by kernel_rfl
def Fn106_s1 (R : KW) (x0 x1 : Value) (w : World) : Prop :=
 callG prog 101 #[x0] w fun t5 w =>
 qG prog (bq .lss 3 (.tmp 6) (.const (.int .i64 0)) x1 (.int .i64 0)) w fun t7 =>
 bV t7
 (qG prog (Instr.makeInterface 9 (.string ⟨#[115, 116, 114, 105, 110, 103, 115, 46, 66, 117, 105, 108, 100, 101, 114, 46, 71, 114, 111, 119, 58, 32, 110, 101, 103, 97, 116, 105, 118, 101, 32, 99, 111, 117, 110, 116]⟩)) w fun t8 =>
 False)
 (Fn106_s0 R x0 x1 w)
theorem Fn106_s1_eq (R : KW) : ∀ e w, liK 25 (bodyOf f127) (fiK f127 R) e w = Fn106_s1 R (e 0) (e 1) w :=
 segs_eq (l := [(sbK f127 [0]), (sbK f127 [1, 0])]) (y := (sbK f127 [1, 1])) (Y := (fun e w => Fn106_s0 R (e 0) (e 1) w)) (Fn106_s0_eq R) (fun e w => by kernel_rfl)
def Fn106 (R : KW) (x0 x1 : Value) (w : World) : Prop := Fn106_s1 R x0 x1 w
theorem Fn106_call {R : KW} {x0 x1 : Value} {w : World} (h : Fn106 R x0 x1 w) : callG prog 127 #[x0, x1] w R :=
 calls_lift_eq mixed func127 (args := [x0, x1]) rfl rfl rfl rfl ((Fn106_s1_eq R) (envOf [x0, x1]) w) (by kernel_rfl) h
def Fn112_s0 (R : KW) (x0 x1 : Value) (w : World) : Prop :=
 nk x0 fun t6 =>
 fa 1 t6 fun t7 =>
 ld1 t7 (World.drew w) fun t8 =>
 qG prog (Builtin.cap_ #[96] 3 #[t8]) (World.drew w) fun t9 =>
 qG prog (bq .mul 3 (.const (.int .i64 2)) (.tmp 9) (.int .i64 2) t9) (World.drew w) fun t10 =>
 qG prog (bq .add 3 (.tmp 10) (.tmp 11) t10 x1) (World.drew w) fun t12 =>
 nk x0 fun t15 =>
 fa 1 t15 fun t16 =>
 ld1 t16 (World.drew w) fun t17 =>
 lenL t17 fun t18 =>
 nG prog (callFunc 148 #[t12]) (World.drew w) fun t13 w =>
 ld1 t16 w (fun u => u = t17) ∧
 slL 1 t13 none (some t18) fun t19 =>
 nk x0 fun t22 =>
 fa 1 t22 fun t23 =>
 ld1 t23 w fun t24 =>
 cp 1 t19 t24 w fun t25 w =>
 nk x0 fun t28 =>
 fa 1 t28 fun t29 =>
 st1 t29 t19 w fun w =>
 R (.tuple #[]) w
theorem Fn112_s0_eq (R : KW) : ∀ e w, liK 30 (bodyOf f141) (fiK f141 R) e w = Fn112_s0 R (e 0) (e 1) w := fun e w => by kernel_rfl
def Fn112 (R : KW) (x0 x1 : Value) (w : World) : Prop := Fn112_s0 R x0 x1 w
theorem Fn112_call {R : KW} {x0 x1 : Value} {w : World} (h : Fn112 R x0 x1 w) : callG prog 141 #[x0, x1] w R :=
 calls_lift_eq mixed func141 (args := [x0, x1]) rfl rfl rfl rfl ((Fn112_s0_eq R) (envOf [x0, x1]) w) (by kernel_rfl) h
def Fn67_s0 (R : KW) (x0 x1 : Value) (w : World) : Prop :=
 callG prog 139 #[x0, x1] w fun t25 w =>
 qG prog (Instr.extract t25 0) w fun t26 =>
 qG prog (Instr.extract t25 1) w fun t27 =>
 R (.tuple #[t26, t27]) w
theorem Fn67_s0_eq (R : KW) : ∀ e w, liK 30 (bodyOf f125) (fiK f125 R) e w = Fn67_s0 R (e 0) (e 1) w := fun e w => by kernel_rfl
def Fn67 (R : KW) (x0 x1 : Value) (w : World) : Prop := Fn67_s0 R x0 x1 w
theorem Fn67_call {R : KW} {x0 x1 : Value} {w : World} (h : Fn67 R x0 x1 w) : callG prog 125 #[x0, x1] w R :=
 calls_lift_eq mixed func125 (args := [x0, x1]) rfl rfl rfl rfl ((Fn67_s0_eq R) (envOf [x0, x1]) w) (by kernel_rfl) h
def Fn68_s0 (R : KW) (x0 x1 : Value) (w : World) : Prop :=
 qG prog (bq .and 146 (.tmp 14) (.const (.int .u64 4294967295)) x0 (.int .u64 4294967295)) w fun t15 =>
 qG prog (bq .shr 146 (.tmp 16) (.const (.int .u64 32)) x0 (.int .u64 32)) w fun t17 =>
 qG prog (bq .and 146 (.tmp 18) (.const (.int .u64 4294967295)) x1 (.int .u64 4294967295)) w fun t19 =>
 qG prog (bq .shr 146 (.tmp 20) (.const (.int .u64 32)) x1 (.int .u64 32)) w fun t21 =>
 qG prog (bq .mul 146 (.tmp 22) (.tmp 23) t15 t19) w fun t24 =>
 qG prog (bq .mul 146 (.tmp 25) (.tmp 26) t17 t19) w fun t27 =>
 qG prog (bq .shr 146 (.tmp 28) (.const (.int .u64 32)) t24 (.int .u64 32)) w fun t29 =>
 qG prog (bq .add 146 (.tmp 27) (.tmp 29) t27 t29) w fun t30 =>
 qG prog (bq .and 146 (.tmp 31) (.const (.int .u64 4294967295)) t30 (.int .u64 4294967295)) w fun t32 =>
 qG prog (bq .shr 146 (.tmp 33) (.const (.int .u64 32)) t30 (.int .u64 32)) w fun t34 =>
 qG prog (bq .mul 146 (.tmp 36) (.tmp 37) t15 t21) w fun t38 =>
 qG prog (bq .add 146 (.tmp 35) (.tmp 38) t32 t38) w fun t39 =>
 qG prog (bq .mul 146 (.tmp 40) (.tmp 41) t17 t21) w fun t42 =>
 qG prog (bq .add 146 (.tmp 42) (.tmp 43) t42 t34) w fun t44 =>
 qG prog (bq .shr 146 (.tmp 45) (.const (.int .u64 32)) t39 (.int .u64 32)) w fun t46 =>
 qG prog (bq .add 146 (.tmp 44) (.tmp 46) t44 t46) w fun t47 =>
 qG prog (bq .mul 146 (.tmp 48) (.tmp 49) x0 x1) w fun t50 =>
 R (.tuple #[t47, t50]) w
theorem Fn68_s0_eq (R : KW) : ∀ e w, liK 51 (bodyOf f139) (fiK f139 R) e w = Fn68_s0 R (e 0) (e 1) w := fun e w => by kernel_rfl
def Fn68 (R : KW) (x0 x1 : Value) (w : World) : Prop := Fn68_s0 R x0 x1 w
theorem Fn68_call {R : KW} {x0 x1 : Value} {w : World} (h : Fn68 R x0 x1 w) : callG prog 139 #[x0, x1] w R :=
 calls_lift_eq mixed func139 (args := [x0, x1]) rfl rfl rfl rfl ((Fn68_s0_eq R) (envOf [x0, x1]) w) (by kernel_rfl) h
end Go.Proofs

set_option linter.unusedVariables false
set_option linter.unusedSimpArgs false
namespace Go.Proofs
open Go Go.Q Tryz
set_option maxRecDepth 100000
def Fn114_s0 (R : KW) (x9 : Value) (w : World) : Prop :=
 callG prog 61 #[x9] w fun t124 w =>
 R t124 w
theorem Fn114_s0_eq (R : KW) : ∀ e w, liK 125 (sbK f105 [1, 1, 1, 1, 1, 1, 1, 1, 1, 1, 1, 1, 1, 1]) (fiK f105 R) e w = Fn114_s0 R (e 9) w := fun e w => by kernel_rfl
def Fn114_b1 (R : KW) (N1 : KL) (x7 x8 x9 : Value) (w : World) : Prop :=
 callG prog 95 #[x9] w fun t111 w =>
 qG prog (bq .lss 3 (.tmp 111) (.tmp 112) t111 x7) w fun t113 =>
 bV t113
 (callG prog 95 #[x9] w fun t115 w =>
 qG prog (bq .sub 3 (.tmp 114) (.tmp 115) x7 t115) w fun t116 =>
 callG prog 95 #[x9] w fun t117 w =>
 qG prog (Builtin.min_ #[3, 3, 3] 3 #[t116, t117, x8]) w fun t119 =>
 callG prog 61 #[x9] w fun t120 w =>
 slS t120 none (some t119) fun t122 =>
 callG prog 59 #[x9, t122] w fun t123 w =>
 N1 [x7, x8, x9] w)
 (Fn114_s0 R x9 w)
theorem Fn114_b1_eq (R : KW) (N1 : KL) : ∀ e w, liK 125 (sbK f105 [1, 1, 1, 1, 1, 1, 1, 1, 1, 1, 1, 1, 1, 0, 0, 0]) (seqK (fun e w => N1 [e 7, e 8, e 9] w) (blockK 3 (seqK (fun e w => Fn114_s0 R (e 9) w) (fiK f105 R)))) e w = Fn114_b1 R N1 (e 7) (e 8) (e 9) w := fun e w => by kernel_rfl
def Fn114_L2F (R : KW) (N1 : KL) (xs : List Value) (w : World) : Prop :=
 match xs with
 | [x7, x8, x9] => Fn114_b1 R N1 x7 x8 x9 w
 | _ => False
def Fn114_L2 (R : KW) (x7 x8 x9 : Value) (w : World) : Prop :=
 ∃ m, loopV (Fn114_L2F R) m [x7, x8, x9] w
theorem Fn114_L2_eq (R : KW) : ∀ e w, liK 125 (sbK f105 [1, 1, 1, 1, 1, 1, 1, 1, 1, 1, 1, 1, 1, 0, 0]) (blockK 3 (seqK (fun e w => Fn114_s0 R (e 9) w) (fiK f105 R))) e w = Fn114_L2 R (e 7) (e 8) (e 9) w := loop_seg (F := Fn114_L2F R) (sel := fun e => [e 7, e 8, e 9]) fun N1 => (Fn114_b1_eq R N1)
def Fn114_s3 (R : KW) (x0 x7 x8 : Value) (w : World) : Prop :=
 newG (zc prog 110) 110 w fun t9 w =>
 callG prog 127 #[t9, x7] w fun t108 w =>
 callG prog 59 #[t9, x0] w fun t110 w =>
 Fn114_L2 R x7 x8 t9 w
theorem Fn114_s3_eq (R : KW) : ∀ e w, liK 125 (sbK f105 [1, 1, 1, 1, 1, 1, 1, 1, 1, 1]) (fiK f105 R) e w = Fn114_s3 R (e 0) (e 7) (e 8) w :=
 segs_eq (l := [(sbK f105 [1, 1, 1, 1, 1, 1, 1, 1, 1, 1, 0]), (sbK f105 [1, 1, 1, 1, 1, 1, 1, 1, 1, 1, 1, 0]), (sbK f105 [1, 1, 1, 1, 1, 1, 1, 1, 1, 1, 1, 1, 0])]) (y := (sbK f105 [1, 1, 1, 1, 1, 1, 1, 1, 1, 1, 1, 1, 1])) (Y := (fun e w => Fn114_L2 R (e 7) (e 8) (e 9) w)) (seq_seg (x := (sbK f105 [1, 1, 1, 1, 1, 1, 1, 1, 1, 1, 1, 1, 1, 0])) (y := (sbK f105 [1, 1, 1, 1, 1, 1, 1, 1, 1, 1, 1, 1, 1, 1])) (Fn114_s0_eq R) (Fn114_L2_eq R)) (fun e w => by kernel_rfl)
def Fn114_s4 (R : KW) (x0 x7 : Value) (w : World) : Prop :=
 qG prog (bq .gtr 3 (.tmp 95) (.const (.int .i64 8192)) x7 (.int .i64 8192)) w fun t96 =>
 bV t96
 (lenS x0 fun t98 =>
 qG prog (bq .quo 3 (.const (.int .i64 8192)) (.tmp 98) (.int .i64 8192) t98) w fun t99 =>
 lenS x0 fun t101 =>
 qG prog (bq .mul 3 (.tmp 99) (.tmp 101) t99 t101) w fun t102 =>
 qG prog (bq .eql 3 (.tmp 103) (.const (.int .i64 0)) t102 (.int .i64 0)) w fun t104 =>
 bV t104
 (lenS x0 fun t106 =>
 Fn114_s3 R x0 x7 t106 w)
 (Fn114_s3 R x0 x7 t102 w))
 (Fn114_s3 R x0 x7 x7 w)
theorem Fn114_s4_eq (R : KW) : ∀ e w, liK 125 (sbK f105 [1, 1, 1, 1, 1, 1, 1, 1]) (fiK f105 R) e w = Fn114_s4 R (e 0) (e 7) w :=
 segs_eq (l := [(sbK f105 [1, 1, 1, 1, 1, 1, 1, 1, 0]), (sbK f105 [1, 1, 1, 1, 1, 1, 1, 1, 1, 0])]) (y := (sbK f105 [1, 1, 1, 1, 1, 1, 1, 1, 1, 1])) (Y := (fun e w => Fn114_s3 R (e 0) (e 7) (e 8) w)) (Fn114_s3_eq R) (fun e w => by kernel_rfl)
def Fn114_s5 (R : KW) (x7 : Value) (w : World) : Prop :=
 slS (.string ⟨#[32, 32, 32, 32, 32, 32, 32, 32, 32, 32, 32, 32, 32, 32, 32, 32, 32, 32, 32, 32, 32, 32, 32, 32, 32, 32, 32, 32, 32, 32, 32, 32, 32, 32, 32, 32, 32, 32, 32, 32, 32, 32, 32, 32, 32, 32, 32, 32, 32, 32, 32, 32, 32, 32, 32, 32, 32, 32, 32, 32, 32, 32, 32, 32, 32, 32, 32, 32, 32, 32, 32, 32, 32, 32, 32, 32, 32, 32, 32, 32, 32, 32, 32, 32, 32, 32, 32, 32, 32, 32, 32, 32, 32, 32, 32, 32, 32, 32, 32, 32, 32, 32, 32, 32, 32, 32, 32, 32, 32, 32, 32, 32, 32, 32, 32, 32, 32, 32, 32, 32, 32, 32, 32, 32, 32, 32, 32, 32]⟩) none (some x7) fun t57 =>
 R t57 w
theorem Fn114_s5_eq (R : KW) : ∀ e w, liK 125 (sbK f105 [1, 1, 1, 1, 1, 1, 1, 0, 1, 0, 1, 0, 0, 1, 0]) (blockK 2 (blockK 1 (seqK (fun e w => Fn114_s4 R (e 0) (e 7) w) (fiK f105 R)))) e w = Fn114_s5 R (e 7) w := fun e w => by kernel_rfl
def Fn114_s6 (R : KW) (x7 : Value) (w : World) : Prop :=
 slS (.string ⟨#[45, 45, 45, 45, 45, 45, 45, 45, 45, 45, 45, 45, 45, 45, 45, 45, 45, 45, 45, 45, 45, 45, 45, 45, 45, 45, 45, 45, 45, 45, 45, 45, 45, 45, 45, 45, 45, 45, 45, 45, 45, 45, 45, 45, 45, 45, 45, 45, 45, 45, 45, 45, 45, 45, 45, 45, 45, 45, 45, 45, 45, 45, 45, 45, 45, 45, 45, 45, 45, 45, 45, 45, 45, 45, 45, 45, 45, 45, 45, 45, 45, 45, 45, 45, 45, 45, 45, 45, 45, 45, 45, 45, 45, 45, 45, 45, 45, 45, 45, 45, 45, 45, 45, 45, 45, 45, 45, 45, 45, 45, 45, 45, 45, 45, 45, 45, 45, 45, 45, 45, 45, 45, 45, 45, 45, 45, 45, 45]⟩) none (some x7) fun t66 =>
 R t66 w
theorem Fn114_s6_eq (R : KW) : ∀ e w, liK 125 (sbK f105 [1, 1, 1, 1, 1, 1, 1, 0, 1, 0, 1, 0, 0, 1, 1, 1, 0]) (blockK 2 (blockK 1 (seqK (fun e w => Fn114_s4 R (e 0) (e 7) w) (fiK f105 R)))) e w = Fn114_s6 R (e 7) w := fun e w => by kernel_rfl
def Fn114_s7 (R : KW) (x7 : Value) (w : World) : Prop :=
 slS (.string ⟨#[48, 48, 48, 48, 48, 48, 48, 48, 48, 48, 48, 48, 48, 48, 48, 48, 48, 48, 48, 48, 48, 48, 48, 48, 48, 48, 48, 48, 48, 48, 48, 48, 48, 48, 48, 48, 48, 48, 48, 48, 48, 48, 48, 48, 48, 48, 48, 48, 48, 48, 48, 48, 48, 48, 48, 48, 48, 48, 48, 48, 48, 48, 48, 48]⟩) none (some x7) fun t75 =>
 R t75 w
theorem Fn114_s7_eq (R : KW) : ∀ e w, liK 125 (sbK f105 [1, 1, 1, 1, 1, 1, 1, 0, 1, 0, 1, 0, 0, 1, 1, 1, 1, 1, 0]) (blockK 2 (blockK 1 (seqK (fun e w => Fn114_s4 R (e 0) (e 7) w) (fiK f105 R)))) e w = Fn114_s7 R (e 7) w := fun e w => by kernel_rfl
def Fn114_s8 (R : KW) (x0 x7 x76 : Value) (w : World) : Prop :=
 bV x76
 (slS (.string ⟨#[61, 61, 61, 61, 61, 61, 61, 61, 61, 61, 61, 61, 61, 61, 61, 61, 61, 61, 61, 61, 61, 61, 61, 61, 61, 61, 61, 61, 61, 61, 61, 61, 61, 61, 61, 61, 61, 61, 61, 61, 61, 61, 61, 61, 61, 61, 61, 61, 61, 61, 61, 61, 61, 61, 61, 61, 61, 61, 61, 61, 61, 61, 61, 61, 61, 61, 61, 61, 61, 61, 61, 61, 61, 61, 61, 61, 61, 61, 61, 61, 61, 61, 61, 61, 61, 61, 61, 61, 61, 61, 61, 61, 61, 61, 61, 61, 61, 61, 61, 61, 61, 61, 61, 61, 61, 61, 61, 61, 61, 61, 61, 61, 61, 61, 61, 61, 61, 61, 61, 61, 61, 61, 61, 61, 61, 61, 61, 61]⟩) none (some x7) fun t84 =>
 R t84 w)
 (qG prog (bq .leq 3 (.tmp 86) (.const (.int .i64 64)) x7 (.int .i64 64)) w fun t87 =>
 bV t87
 (callG prog 126 #[(.string ⟨#[9, 9, 9, 9, 9, 9, 9, 9, 9, 9, 9, 9, 9, 9, 9, 9, 9, 9, 9, 9, 9, 9, 9, 9, 9, 9, 9, 9, 9, 9, 9, 9, 9, 9, 9, 9, 9, 9, 9, 9, 9, 9, 9, 9, 9, 9, 9, 9, 9, 9, 9, 9, 9, 9, 9, 9, 9, 9, 9, 9, 9, 9, 9, 9]⟩), x0] w fun t90 w =>
 bV t90
 (slS (.string ⟨#[9, 9, 9, 9, 9, 9, 9, 9, 9, 9, 9, 9, 9, 9, 9, 9, 9, 9, 9, 9, 9, 9, 9, 9, 9, 9, 9, 9, 9, 9, 9, 9, 9, 9, 9, 9, 9, 9, 9, 9, 9, 9, 9, 9, 9, 9, 9, 9, 9, 9, 9, 9, 9, 9, 9, 9, 9, 9, 9, 9, 9, 9, 9, 9]⟩) none (some x7) fun t93 =>
 R t93 w)
 (Fn114_s4 R x0 x7 w))
 (Fn114_s4 R x0 x7 w))
theorem Fn114_s8_eq (R : KW) : ∀ e w, liK 125 (sbK f105 [1, 1, 1, 1, 1, 1, 1, 0, 1, 0, 1, 0, 0, 1, 1, 1, 1, 1, 1, 1]) (blockK 2 (blockK 1 (seqK (fun e w => Fn114_s4 R (e 0) (e 7) w) (fiK f105 R)))) e w = Fn114_s8 R (e 0) (e 7) (e 76) w := fun e w => by kernel_rfl
def Fn114_s9 (R : KW) (x0 x7 : Value) (w : World) : Prop :=
 qG prog (bq .leq 3 (.tmp 77) (.const (.int .i64 128)) x7 (.int .i64 128)) w fun t78 =>
 bV t78
 (callG prog 126 #[(.string ⟨#[61, 61, 61, 61, 61, 61, 61, 61, 61, 61, 61, 61, 61, 61, 61, 61, 61, 61, 61, 61, 61, 61, 61, 61, 61, 61, 61, 61, 61, 61, 61, 61, 61, 61, 61, 61, 61, 61, 61, 61, 61, 61, 61, 61, 61, 61, 61, 61, 61, 61, 61, 61, 61, 61, 61, 61, 61, 61, 61, 61, 61, 61, 61, 61, 61, 61, 61, 61, 61, 61, 61, 61, 61, 61, 61, 61, 61, 61, 61, 61, 61, 61, 61, 61, 61, 61, 61, 61, 61, 61, 61, 61, 61, 61, 61, 61, 61, 61, 61, 61, 61, 61, 61, 61, 61, 61, 61, 61, 61, 61, 61, 61, 61, 61, 61, 61, 61, 61, 61, 61, 61, 61, 61, 61, 61, 61, 61, 61]⟩), x0] w fun t81 w =>
 Fn114_s8 R x0 x7 t81 w)
 (Fn114_s8 R x0 x7 (.bool false) w)
theorem Fn114_s9_eq (R : KW) : ∀ e w, liK 125 (sbK f105 [1, 1, 1, 1, 1, 1, 1, 0, 1, 0, 1, 0, 0, 1, 1, 1, 1, 1, 1]) (blockK 2 (blockK 1 (seqK (fun e w => Fn114_s4 R (e 0) (e 7) w) (fiK f105 R)))) e w = Fn114_s9 R (e 0) (e 7) w :=
 segs_eq (l := [(sbK f105 [1, 1, 1, 1, 1, 1, 1, 0, 1, 0, 1, 0, 0, 1, 1, 1, 1, 1, 1, 0])]) (y := (sbK f105 [1, 1, 1, 1, 1, 1, 1, 0, 1, 0, 1, 0, 0, 1, 1, 1, 1, 1, 1, 1])) (Y := (fun e w => Fn114_s8 R (e 0) (e 7) (e 76) w)) (Fn114_s8_eq R) (fun e w => by kernel_rfl)
def Fn114_s10 (R : KW) (x0 x7 x67 : Value) (w : World) : Prop :=
 bV x67 (Fn114_s7 R x7 w) (Fn114_s9 R x0 x7 w)
theorem Fn114_s10_eq (R : KW) : ∀ e w, liK 125 (sbK f105 [1, 1, 1, 1, 1, 1, 1, 0, 1, 0, 1, 0, 0, 1, 1, 1, 1, 1]) (blockK 2 (blockK 1 (seqK (fun e w => Fn114_s4 R (e 0) (e 7) w) (fiK f105 R)))) e w = Fn114_s10 R (e 0) (e 7) (e 67) w := fun e w => (cond_seg (x := (sbK f105 [1, 1, 1, 1, 1, 1, 1, 0, 1, 0, 1, 0, 0, 1, 1, 1, 1, 1, 0])) (y := (sbK f105 [1, 1, 1, 1, 1, 1, 1, 0, 1, 0, 1, 0, 0, 1, 1, 1, 1, 1, 1])) (Fn114_s7_eq R) (Fn114_s9_eq R) e w).trans (by kernel_rfl)
def Fn114_s11 (R : KW) (x0 x7 : Value) (w : World) : Prop :=
 qG prog (bq .leq 3 (.tmp 68) (.const (.int .i64 64)) x7 (.int .i64 64)) w fun t69 =>
 bV t69
 (callG prog 126 #[(.string ⟨#[48, 48, 48, 48, 48, 48, 48, 48, 48, 48, 48, 48, 48, 48, 48, 48, 48, 48, 48, 48, 48, 48, 48, 48, 48, 48, 48, 48, 48, 48, 48, 48, 48, 48, 48, 48, 48, 48, 48, 48, 48, 48, 48, 48, 48, 48, 48, 48, 48, 48, 48, 48, 48, 48, 48, 48, 48, 48, 48, 48, 48, 48, 48, 48]⟩), x0] w fun t72 w =>
 Fn114_s10 R x0 x7 t72 w)
 (Fn114_s10 R x0 x7 (.bool false) w)
theorem Fn114_s11_eq (R : KW) : ∀ e w, liK 125 (sbK f105 [1, 1, 1, 1, 1, 1, 1, 0, 1, 0, 1, 0, 0, 1, 1, 1, 1]) (blockK 2 (blockK 1 (seqK (fun e w => Fn114_s4 R (e 0) (e 7) w) (fiK f105 R)))) e w = Fn114_s11 R (e 0) (e 7) w :=
 segs_eq (l := [(sbK f105 [1, 1, 1, 1, 1, 1, 1, 0, 1, 0, 1, 0, 0, 1, 1, 1, 1, 0])]) (y := (sbK f105 [1, 1, 1, 1, 1, 1, 1, 0, 1, 0, 1, 0, 0, 1, 1, 1, 1, 1])) (Y := (fun e w => Fn114_s10 R (e 0) (e 7) (e 67) w)) (Fn114_s10_eq R) (fun e w => by kernel_rfl)
def Fn114_s12 (R : KW) (x0 x7 x58 : Value) (w : World) : Prop :=
 bV x58 (Fn114_s6 R x7 w) (Fn114_s11 R x0 x7 w)
theorem Fn114_s12_eq (R : KW) : ∀ e w, liK 125 (sbK f105 [1, 1, 1, 1, 1, 1, 1, 0, 1, 0, 1, 0, 0, 1, 1, 1]) (blockK 2 (blockK 1 (seqK (fun e w => Fn114_s4 R (e 0) (e 7) w) (fiK f105 R)))) e w = Fn114_s12 R (e 0) (e 7) (e 58) w := fun e w => (cond_seg (x := (sbK f105 [1, 1, 1, 1, 1, 1, 1, 0, 1, 0, 1, 0, 0, 1, 1, 1, 0])) (y := (sbK f105 [1, 1, 1, 1, 1, 1, 1, 0, 1, 0, 1, 0, 0, 1, 1, 1, 1])) (Fn114_s6_eq R) (Fn114_s11_eq R) e w).trans (by kernel_rfl)
def Fn114_s13 (R : KW) (x0 x7 : Value) (w : World) : Prop :=
 qG prog (bq .leq 3 (.tmp 59) (.const (.int .i64 128)) x7 (.int .i64 128)) w fun t60 =>
 bV t60
 (callG prog 126 #[(.string ⟨#[45, 45, 45, 45, 45, 45, 45, 45, 45, 45, 45, 45, 45, 45, 45, 45, 45, 45, 45, 45, 45, 45, 45, 45, 45, 45, 45, 45, 45, 45, 45, 45, 45, 45, 45, 45, 45, 45, 45, 45, 45, 45, 45, 45, 45, 45, 45, 45, 45, 45, 45, 45, 45, 45, 45, 45, 45, 45, 45, 45, 45, 45, 45, 45, 45, 45, 45, 45, 45, 45, 45, 45, 45, 45, 45, 45, 45, 45, 45, 45, 45, 45, 45, 45, 45, 45, 45, 45, 45, 45, 45, 45, 45, 45, 45, 45, 45, 45, 45, 45, 45, 45, 45, 45, 45, 45, 45, 45, 45, 45, 45, 45, 45, 45, 45, 45, 45, 45, 45, 45, 45, 45, 45, 45, 45, 45, 45, 45]⟩), x0] w fun t63 w =>
 Fn114_s12 R x0 x7 t63 w)
 (Fn114_s12 R x0 x7 (.bool false) w)
theorem Fn114_s13_eq (R : KW) : ∀ e w, liK 125 (sbK f105 [1, 1, 1, 1, 1, 1, 1, 0, 1, 0, 1, 0, 0, 1, 1]) (blockK 2 (blockK 1 (seqK (fun e w => Fn114_s4 R (e 0) (e 7) w) (fiK f105 R)))) e w = Fn114_s13 R (e 0) (e 7) w :=
 segs_eq (l := [(sbK f105 [1, 1, 1, 1, 1, 1, 1, 0, 1, 0, 1, 0, 0, 1, 1, 0])]) (y := (sbK f105 [1, 1, 1, 1, 1, 1, 1, 0, 1, 0, 1, 0, 0, 1, 1, 1])) (Y := (fun e w => Fn114_s12 R (e 0) (e 7) (e 58) w)) (Fn114_s12_eq R) (fun e w => by kernel_rfl)
def Fn114_s14 (R : KW) (x0 x7 x49 : Value) (w : World) : Prop :=
 bV x49 (Fn114_s5 R x7 w) (Fn114_s13 R x0 x7 w)
theorem Fn114_s14_eq (R : KW) : ∀ e w, liK 125 (sbK f105 [1, 1, 1, 1, 1, 1, 1, 0, 1, 0, 1, 0, 0, 1]) (blockK 2 (blockK 1 (seqK (fun e w => Fn114_s4 R (e 0) (e 7) w) (fiK f105 R)))) e w = Fn114_s14 R (e 0) (e 7) (e 49) w := fun e w => (cond_seg (x := (sbK f105 [1, 1, 1, 1, 1, 1, 1, 0, 1, 0, 1, 0, 0, 1, 0])) (y := (sbK f105 [1, 1, 1, 1, 1, 1, 1, 0, 1, 0, 1, 0, 0, 1, 1])) (Fn114_s5_eq R) (Fn114_s13_eq R) e w).trans (by kernel_rfl)
def Fn114_s15 (R : KW) (x0 x7 : Value) (w : World) : Prop :=
 qG prog (bq .leq 3 (.tmp 50) (.const (.int .i64 128)) x7 (.int .i64 128)) w fun t51 =>
 bV t51
 (callG prog 126 #[(.string ⟨#[32, 32, 32, 32, 32, 32, 32, 32, 32, 32, 32, 32, 32, 32, 32, 32, 32, 32, 32, 32, 32, 32, 32, 32, 32, 32, 32, 32, 32, 32, 32, 32, 32, 32, 32, 32, 32, 32, 32, 32, 32, 32, 32, 32, 32, 32, 32, 32, 32, 32, 32, 32, 32, 32, 32, 32, 32, 32, 32, 32, 32, 32, 32, 32, 32, 32, 32, 32, 32, 32, 32, 32, 32, 32, 32, 32, 32, 32, 32, 32, 32, 32, 32, 32, 32, 32, 32, 32, 32, 32, 32, 32, 32, 32, 32, 32, 32, 32, 32, 32, 32, 32, 32, 32, 32, 32, 32, 32, 32, 32, 32, 32, 32, 32, 32, 32, 32, 32, 32, 32, 32, 32, 32, 32, 32, 32, 32, 32]⟩), x0] w fun t54 w =>
 Fn114_s14 R x0 x7 t54 w)
 (Fn114_s14 R x0 x7 (.bool false) w)
theorem Fn114_s15_eq (R : KW) : ∀ e w, liK 125 (sbK f105 [1, 1, 1, 1, 1, 1, 1, 0, 1, 0, 1, 0, 0]) (blockK 2 (blockK 1 (seqK (fun e w => Fn114_s4 R (e 0) (e 7) w) (fiK f105 R)))) e w = Fn114_s15 R (e 0) (e 7) w :=
 segs_eq (l := [(sbK f105 [1, 1, 1, 1, 1, 1, 1, 0, 1, 0, 1, 0, 0, 0])]) (y := (sbK f105 [1, 1, 1, 1, 1, 1, 1, 0, 1, 0, 1, 0, 0, 1])) (Y := (fun e w => Fn114_s14 R (e 0) (e 7) (e 49) w)) (Fn114_s14_eq R) (fun e w => by kernel_rfl)
def Fn114_s16 (R : KW) (x0 x7 : Value) (w : World) : Prop :=
 Fn114_s4 R x0 x7 w
theorem Fn114_s16_eq (R : KW) : ∀ e w, liK 125 (sbK f105 [1, 1, 1, 1, 1, 1, 1, 0, 1, 0, 1, 1]) (blockK 1 (seqK (fun e w => Fn114_s4 R (e 0) (e 7) w) (fiK f105 R))) e w = Fn114_s16 R (e 0) (e 7) w := fun e w => by kernel_rfl
def Fn114_s17 (R : KW) (x0 x7 x43 : Value) (w : World) : Prop :=
 bV x43 (Fn114_s15 R x0 x7 w) (Fn114_s16 R x0 x7 w)
theorem Fn114_s17_eq (R : KW) : ∀ e w, liK 125 (sbK f105 [1, 1, 1, 1, 1, 1, 1, 0, 1, 0, 1]) (blockK 1 (seqK (fun e w => Fn114_s4 R (e 0) (e 7) w) (fiK f105 R))) e w = Fn114_s17 R (e 0) (e 7) (e 43) w := fun e w => (cond_seg (x := (sbK f105 [1, 1, 1, 1, 1, 1, 1, 0, 1, 0, 1, 0])) (y := (sbK f105 [1, 1, 1, 1, 1, 1, 1, 0, 1, 0, 1, 1])) (Fn114_s15_eq R) (Fn114_s16_eq R) e w).trans (by kernel_rfl)
def Fn114_s18 (R : KW) (x0 x7 x42 : Value) (w : World) : Prop :=
 qG prog (bq .eql 5 (.tmp 42) (.const (.int .u8 32)) x42 (.int .u8 32)) w fun t44 =>
 bV t44
 (Fn114_s17 R x0 x7 (.bool true) w)
 (qG prog (bq .eql 5 (.tmp 42) (.const (.int .u8 45)) x42 (.int .u8 45)) w fun t45 =>
 bV t45
 (Fn114_s17 R x0 x7 (.bool true) w)
 (qG prog (bq .eql 5 (.tmp 42) (.const (.int .u8 48)) x42 (.int .u8 48)) w fun t46 =>
 bV t46
 (Fn114_s17 R x0 x7 (.bool true) w)
 (qG prog (bq .eql 5 (.tmp 42) (.const (.int .u8 61)) x42 (.int .u8 61)) w fun t47 =>
 bV t47
 (Fn114_s17 R x0 x7 (.bool true) w)
 (qG prog (bq .eql 5 (.tmp 42) (.const (.int .u8 9)) x42 (.int .u8 9)) w fun t48 =>
 Fn114_s17 R x0 x7 t48 w))))
theorem Fn114_s18_eq (R : KW) : ∀ e w, liK 125 (sbK f105 [1, 1, 1, 1, 1, 1, 1, 0, 1, 0]) (blockK 1 (seqK (fun e w => Fn114_s4 R (e 0) (e 7) w) (fiK f105 R))) e w = Fn114_s18 R (e 0) (e 7) (e 42) w :=
 segs_eq (l := [(sbK f105 [1, 1, 1, 1, 1, 1, 1, 0, 1, 0, 0])]) (y := (sbK f105 [1, 1, 1, 1, 1, 1, 1, 0, 1, 0, 1])) (Y := (fun e w => Fn114_s17 R (e 0) (e 7) (e 43) w)) (Fn114_s17_eq R) (fun e w => by kernel_rfl)
def Fn114_s19 (R : KW) (x0 x7 : Value) (w : World) : Prop :=
 ixS x0 (.int .i64 0) fun t42 =>
 Fn114_s18 R x0 x7 t42 w
theorem Fn114_s19_eq (R : KW) : ∀ e w, liK 125 (sbK f105 [1, 1, 1, 1, 1, 1, 1, 0]) (seqK (fun e w => Fn114_s4 R (e 0) (e 7) w) (fiK f105 R)) e w = Fn114_s19 R (e 0) (e 7) w :=
 segs_eq (l := [(sbK f105 [1, 1, 1, 1, 1, 1, 1, 0, 0])]) (y := (sbK f105 [1, 1, 1, 1, 1, 1, 1, 0, 1])) (Y := (fun e w => Fn114_s18 R (e 0) (e 7) (e 42) w)) (Fn114_s18_eq R) (fun e w => by kernel_rfl)
def Fn114_s20 (R : KW) (x0 x6 : Value) (w : World) : Prop :=
 cvI .i64 x6 fun t37 =>
 lenS x0 fun t39 =>
 qG prog (bq .eql 3 (.tmp 39) (.const (.int .i64 0)) t39 (.int .i64 0)) w fun t40 =>
 bV t40
 (R (.string ⟨#[]⟩) w)
 (Fn114_s19 R x0 t37 w)
theorem Fn114_s20_eq (R : KW) : ∀ e w, liK 125 (sbK f105 [1, 1, 1, 1, 1]) (fiK f105 R) e w = Fn114_s20 R (e 0) (e 6) w :=
 segs_eq (l := [(sbK f105 [1, 1, 1, 1, 1, 0]), (sbK f105 [1, 1, 1, 1, 1, 1, 0])]) (y := (sbK f105 [1, 1, 1, 1, 1, 1, 1])) (Y := (fun e w => Fn114_s19 R (e 0) (e 7) w)) (seq_seg (x := (sbK f105 [1, 1, 1, 1, 1, 1, 1, 0])) (y := (sbK f105 [1, 1, 1, 1, 1, 1, 1, 1])) (Fn114_s4_eq R) (Fn114_s19_eq R)) (fun e w => by kernel_rfl)
def Fn114_s21 (R : KW) (x0 x1 : Value) (w : World) : Prop :=
 lenS x0 fun t22 =>
 cvI .u64 t22 fun t23 =>
 cvI .u64 x1 fun t25 =>
 callG prog 125 #[t23, t25] w fun t26 w =>
 qG prog (Instr.extract t26 0) w fun t27 =>
 qG prog (Instr.extract t26 1) w fun t28 =>
 qG prog (bq .gtr 149 (.tmp 29) (.const (.int .u64 0)) t27 (.int .u64 0)) w fun t30 =>
 bV t30
 (qG prog (Instr.makeInterface 9 (.string ⟨#[115, 116, 114, 105, 110, 103, 115, 58, 32, 82, 101, 112, 101, 97, 116, 32, 111, 117, 116, 112, 117, 116, 32, 108, 101, 110, 103, 116, 104, 32, 111, 118, 101, 114, 102, 108, 111, 119]⟩)) w fun t35 =>
 False)
 (qG prog (bq .gtr 149 (.tmp 32) (.const (.int .u64 9223372036854775807)) t28 (.int .u64 9223372036854775807)) w fun t33 =>
 bV t33
 (qG prog (Instr.makeInterface 9 (.string ⟨#[115, 116, 114, 105, 110, 103, 115, 58, 32, 82, 101, 112, 101, 97, 116, 32, 111, 117, 116, 112, 117, 116, 32, 108, 101, 110, 103, 116, 104, 32, 111, 118, 101, 114, 102, 108, 111, 119]⟩)) w fun t35_1 =>
 False)
 (Fn114_s20 R x0 t28 w))
theorem Fn114_s21_eq (R : KW) : ∀ e w, liK 125 (sbK f105 [1, 1, 1]) (fiK f105 R) e w = Fn114_s21 R (e 0) (e 1) w :=
 segs_eq (l := [(sbK f105 [1, 1, 1, 0]), (sbK f105 [1, 1, 1, 1, 0])]) (y := (sbK f105 [1, 1, 1, 1, 1])) (Y := (fun e w => Fn114_s20 R (e 0) (e 6) w)) (Fn114_s20_eq R) (fun e w => by kernel_rfl)
def Fn114_s22 (R : KW) (x0 x1 : Value) (w : World) : Prop :=
 qG prog (bq .eql 3 (.tmp 11) (.const (.int .i64 0)) x1 (.int .i64 0)) w fun t13 =>
 bV t13
 (R (.string ⟨#[]⟩) w)
 (qG prog (bq .eql 3 (.tmp 11) (.const (.int .i64 1)) x1 (.int .i64 1)) w fun t15 =>
 bV t15
 (R x0 w)
 (qG prog (bq .lss 3 (.tmp 17) (.const (.int .i64 0)) x1 (.int .i64 0)) w fun t18 =>
 bV t18
 (qG prog (Instr.makeInterface 9 (.string ⟨#[115, 116, 114, 105, 110, 103, 115, 58, 32, 110, 101, 103, 97, 116, 105, 118, 101, 32, 82, 101, 112, 101, 97, 116, 32, 99, 111, 117, 110, 116]⟩)) w fun t19 =>
 False)
 (Fn114_s21 R x0 x1 w)))
theorem Fn114_s22_eq (R : KW) : ∀ e w, liK 125 (bodyOf f105) (fiK f105 R) e w = Fn114_s22 R (e 0) (e 1) w :=
 segs_eq (l := [(sbK f105 [0]), (sbK f105 [1, 0]), (sbK f105 [1, 1, 0])]) (y := (sbK f105 [1, 1, 1])) (Y := (fun e w => Fn114_s21 R (e 0) (e 1) w)) (Fn114_s21_eq R) (fun e w => by kernel_rfl)
def Fn114 (R : KW) (x0 x1 : Value) (w : World) : Prop := Fn114_s22 R x0 x1 w
theorem Fn114_call {R : KW} {x0 x1 : Value} {w : World} (h : Fn114 R x0 x1 w) : callG prog 105 #[x0, x1] w R :=
 calls_lift_eq mixed func105 (args := [x0, x1]) rfl rfl rfl rfl ((Fn114_s22_eq R) (envOf [x0, x1]) w) (by kernel_rfl) h
end Go.Proofs

set_option linter.unusedVariables false
set_option linter.unusedSimpArgs false
namespace Go.Q
structure E where
  v : V3
  n : Int
  deriving DecidableEq
def eC (e : E) : List Value := valV e.v ++ [.int .i64 e.n]
end Go.Q

set_option linter.unusedVariables false
set_option linter.unusedSimpArgs false
namespace Go.Q
variable {P : Program}
theorem argB {cs : Array Value} {T : TypeId} {w : World} {K : KW} (h : ∀ b w1, w.heap.size ≤ b → w1.heap[b]? = some (.cells cs T) → Kp [] w w1 → K (.pointer (some ⟨b, 0, none⟩)) w1) :
    newG (Value.cells (.agg cs)) T w K := h _ _ (Nat.le_refl _) heap_new kp_alloc
theorem newB {cs : Array Value} {T : TypeId} {w : World} {K : KW} (h : ∀ b w1, w.heap.size ≤ b → w1.heap[b]? = some (.cells cs T) → Kp [] w w1 → K (.pointer (some ⟨b, 0, none⟩)) w1) :
    newG cs T w K := h _ _ (Nat.le_refl _) heap_new kp_alloc
theorem ldA {b k : Nat} {c : Array Value} {T : TypeId} {fr : Nat × Nat} {w : World} (h : w.heap[b]? = some (.cells c T fr)) (hc : c.size = k) {K : Value → Prop} : ldn k (.pointer (some ⟨b, 0, none⟩)) w K = K (.agg c) := by
  rw [ldn_p, rdN_mk, h]
  subst hc
  simp
theorem ldP {b o k : Nat} {c : Array Value} {T : TypeId} {fr : Nat × Nat} {w : World} (h : w.heap[b]? = some (.cells c T fr)) {p : Array Value} (hp : c.extract o (o + k) = p) (hs : o + k ≤ c.size) {K : Value → Prop} : ldn k (.pointer (some ⟨b, o, none⟩)) w K = K (.agg p) := by
  rw [ldn_p, rdN_mk, h]
  simp only [hp, hs, true_and]
theorem stA {b k : Nat} {old c : Array Value} {T : TypeId} {w : World} (h : w.heap[b]? = some (.cells old T)) (ho : old.size = k) (hc : c.size = k) (hone : c.all one = true) {K : World → Prop} :
    stn k (.pointer (some ⟨b, 0, none⟩)) (.agg c) w K = K (setBlk w b (.cells c T)) := by
  rw [stn_p, wrN_mk, h]
  have hsp : splice old 0 c = c := splice_all (by rw [ho, hc])
  apply propext
  constructor
  · rintro ⟨_, _, hk⟩
    rw [hsp] at hk
    exact hk
  · intro hk
    refine ⟨hc, ⟨by omega, by rw [okFr0]; trivial, hone⟩, ?_⟩
    rw [hsp]; exact hk
theorem retB {T T' : TypeId} {n z : Nat} {old c : Array Value} {w : World} (ha : aggO P T = some true) (hn : szO P T = some n) (h : w.heap[z]? = some (.cells old T')) (ho : old.size = n) (hc : c.size = n) (hone : c.all one = true) {R : KW}
    (hR : ∀ w', Kp [z] w w' → R (.agg c) w') : stn n (.pointer (some ⟨z, 0, none⟩)) (.agg c) w fun w => qG P (do loadVar T (← asAddr (.pointer (some ⟨z, 0, none⟩)))) w fun r => R r w := by
  rw [stA h ho hc hone, loadVar_of ha hn (heap_self (live_of h)) hc]
  exact hR _ ((Kp.refl _ w).setBlk (.inl (by simp)) _)
end Go.Q

set_option linter.unusedVariables false
set_option linter.unusedSimpArgs false
namespace Go.Q
abbrev KV := List UInt8 × List UInt8
def clen (x : KV) : Nat := x.1.length + x.2.length
def tot (l : List KV) : Nat := (l.map clen).sum
def cellsP : List KV → List UInt8
  | [] => []
  | x :: r => cellsP r ++ (x.1 ++ x.2)
def slots (off : Nat) : List KV → List UInt8
  | [] => []
  | x :: r => UInt8.ofNat (off - clen x) :: UInt8.ofNat x.1.length :: slots (off - clen x) r
def hdr (kd : UInt8) (n u : Nat) : List UInt8 := [kd, UInt8.ofNat n, UInt8.ofNat (u % 256), UInt8.ofNat (u / 256), 0, 0, 0, 0]
def lay (kd : UInt8) (l : List KV) : List UInt8 := hdr kd l.length (tot l) ++ (slots 256 l ++ (List.replicate (248 - 2 * l.length - tot l) 0 ++ cellsP l))
structure Fit (l : List KV) : Prop where
  room : 8 + 2 * l.length + tot l ≤ 256
  key : ∀ x ∈ l, 1 ≤ x.1.length ∧ x.1.length ≤ 80 ∧ clen x ≤ 100
section
variable {α : Type} {P Q R : List α} {x v : α}
end
section
variable {l : List KV}
theorem Fit.len (h : Fit l) : l.length ≤ 124 ∧ tot l ≤ 248 := by have := h.room; omega
end
def turn (e n : Nat) (B : List KV) (j : Nat) : List UInt8 := slots (e - n) (B.take j) ++ slots (e - tot (B.take j)) (B.drop j)
end Go.Q

set_option linter.unusedVariables false
set_option linter.unusedSimpArgs false
namespace Go.Q
theorem setBlk_same {w : World} {p : Nat} {o : Obj} (h : w.heap[p]? = some o) : setBlk w p o = w := by
  unfold setBlk
  have : w.heap.setIfInBounds p o = w.heap := by
    apply Array.ext_getElem?
    intro j
    rw [Array.getElem?_setIfInBounds]
    split
    · rename_i e; subst e; split
      · exact h.symm
      · rename_i h2; exact absurd (lt_of_blk h) h2
    · rfl
  rw [this]
section
variable {w : World} {p T : Nat} {pre post : List Value} {b : List UInt8}
end
end Go.Q

set_option maxRecDepth 100000
set_option linter.unusedVariables false
set_option linter.unusedSimpArgs false
namespace Go.Proofs
open Go Go.Q
open Tryz (prog)
theorem and64m {T : TypeId} {xo yo : Operand} {w : World} {K : Value → Prop} {n : Nat} (hn : n < 2 ^ 32) : qG prog (bq .and T xo yo (.int .u64 (n : Nat)) (.int .u64 4294967295)) w K = K (.int .u64 (n : Nat)) :=
  qG_of (run_bq_int (s := .pure _) fun w => by
    have h2 : IntKind.u64.wrap ((BitVec.ofInt 64 (n : Int) &&& BitVec.ofInt 64 (((4294967295 : Nat) : Int))).toNat : Int) = ((n : Nat) : Int) := by
      rw [BitVec.toNat_and, ofInt_nat, ofInt_nat, Nat.mod_eq_of_lt (by omega), Nat.mod_eq_of_lt (by omega)]
      rw [show (4294967295 : Nat) = 2 ^ 32 - 1 from rfl, Nat.and_two_pow_sub_one_eq_mod, Nat.mod_eq_of_lt hn]
      exact wrap_natu64 (by omega)
    simp only [binOp, ne_eq, not_true_eq_false, if_false, Op.intBits]
    show Result.ok _ _ = Result.ok _ _
    congr 2)
theorem mul_one {w : World} {n : Nat} (hn : n < 2 ^ 32) {R : KW} (hR : R (.tuple #[.int .u64 0, .int .u64 (n : Nat)]) w) : callG prog 125 #[.int .u64 1, .int .u64 (n : Nat)] w R := by
  refine Fn67_call ?_
  unfold Fn67 Fn67_s0
  have key : ∀ {R : KW}, R (.tuple #[.int .u64 0, .int .u64 (n : Nat)]) w → callG prog 139 #[.int .u64 1, .int .u64 (n : Nat)] w R := by
    intro R hR
    refine Fn68_call ?_
    unfold Fn68 Fn68_s0
    have w0 : ∀ x : Int, x = 0 → IntKind.u64.wrap x = ((0 : Nat) : Int) := fun x hx => by rw [hx]; rfl
    have wn : ∀ x : Int, x = (n : Int) → IntKind.u64.wrap x = (n : Int) := fun x hx => by rw [hx]; exact wrap_natu64 (by omega)
    have sh : ∀ (m : Nat), m < 2 ^ 32 → ((m : Int) / 2 ^ (32 : Int).toNat) = ((0 : Nat) : Int) := fun m hm => by
      rw [show (32 : Int).toNat = 32 from rfl]
      have : ((m : Int) / 2 ^ 32) = ((m / 2 ^ 32 : Nat) : Int) := by simp
      rw [this, Nat.div_eq_of_lt hm]
    rw [show (Value.int .u64 1) = .int .u64 ((1 : Nat) : Int) from rfl]
    rw [and64m (by omega), shr_of (by omega) (by decide), sh 1 (by omega), and64m hn, shr_of (by omega) (by decide), sh n hn]
    simp only [bq_mul, bq_add]
    rw [wn (((1 : Nat) : Int) * (n : Int)) (by omega), w0 (((0 : Nat) : Int) * (n : Int)) (by omega), shr_of (by omega) (by decide), sh n hn]
    simp only [bq_add]
    rw [w0 (((0 : Nat) : Int) + ((0 : Nat) : Int)) (by omega), and64m (by omega), shr_of (by omega) (by decide), sh 0 (by omega)]
    simp only [bq_mul, bq_add]
    rw [w0 (((1 : Nat) : Int) * ((0 : Nat) : Int)) (by omega), w0 (((0 : Nat) : Int) + ((0 : Nat) : Int)) (by omega), w0 (((0 : Nat) : Int) * ((0 : Nat) : Int)) (by omega), w0 (((0 : Nat) : Int) + ((0 : Nat) : Int)) (by omega), shr_of (by omega) (by decide), sh 0 (by omega)]
    simp only [bq_add]
    rw [w0 (((0 : Nat) : Int) + ((0 : Nat) : Int)) (by omega)]
    exact hR
  refine key ?_
  rw [ex0, ex1]
  exact hR
structure BuG (w0 w : World) (b : Nat) (l : List UInt8) (cap : Nat) : Prop where
  ex : ∃ bl c fr, w.heap[b]? = some (.cells #[.pointer (some ⟨b, 0, none⟩), .slice (some ⟨bl, 0, none⟩) l.length cap] 110) ∧ w.heap[bl]? = some (.cells c 5 fr) ∧ c.size = cap ∧ l.length ≤ cap ∧ c.toList.take l.length = u8c l ∧ (fr = (0, 0) ∨ fr.1 = 0 ∧ fr.2 ≤ l.length) ∧ b ≠ bl ∧ w0.heap.size ≤ b ∧ w0.heap.size ≤ bl
  kp : Kp [] w0 w
section
variable {w0 w : World} {b cap : Nat} {l : List UInt8} {K : KW}
theorem bug_check (h : BuG w0 w b l cap) (hK : K (.tuple #[]) w) : callG prog 101 #[.pointer (some ⟨b, 0, none⟩)] w K := by
  obtain ⟨bl, c, fr, h1, _⟩ := h.ex
  refine Fn111_call ?_
  unfold Fn111 Fn111_s0
  rw [nk_p, fa_p, ldF (x := .pointer (some ⟨b, 0, none⟩)) h1 rfl, bq_peql _ (by kernel_rfl)]
  simp only [bV_b, Option.isNone_some]
  refine ⟨fun h => by simp at h, fun _ => ?_⟩
  rw [nk_p, fa_p, ldF (x := .pointer (some ⟨b, 0, none⟩)) h1 rfl, bq_psame]
  simp only [bV_b]
  exact ⟨fun h => by simp at h, fun _ => hK⟩
theorem bug_len (h : BuG w0 w b l cap) (hK : K (.int .i64 (l.length : Nat)) w) : callG prog 95 #[.pointer (some ⟨b, 0, none⟩)] w K := by
  obtain ⟨bl, c, fr, h1, _⟩ := h.ex
  refine Fn107_call ?_
  unfold Fn107 Fn107_s0
  rw [nk_p, fa_p, ldF (x := .slice (some ⟨bl, 0, none⟩) l.length cap) h1 rfl, lenL_s]
  exact hK
theorem bug_write (h : BuG w0 w b l cap) (s : List UInt8) (hc : l.length + s.length ≤ cap) (hK : ∀ w', BuG w0 w' b (l ++ s) cap → K (.tuple #[.int .i64 s.length, .nilIface]) w') : callG prog 59 #[.pointer (some ⟨b, 0, none⟩), .string (str s)] w K := by
  refine Fn110_call ?_
  unfold Fn110 Fn110_s0
  refine bug_check h ?_
  obtain ⟨bl, c, fr, h1, h2, h3, h4, h5, h6, h7, h8, h9⟩ := h.ex
  rw [nk_p, fa_p, ldF (x := .slice (some ⟨bl, 0, none⟩) l.length cap) h1 rfl]
  have he : u8s ((str s).extract 0 s.length) = (u8c s).toArray := by rw [str_extract, List.take_length, List.drop_zero, u8s_eq]; rfl
  unfold app
  simp only [srcA, str_size, he, wrO, add_mk, Nat.mul_one, Nat.zero_add]
  refine ⟨fun _ => ?_, fun h => by omega⟩
  have hone := one_u8c s
  have hfr : okFr fr l.length s.length := by
    rcases h6 with rfl | ⟨_, h6⟩
    · left; simp
    · left; exact h6
  rw [wrN_mk, h2]
  refine ⟨⟨by simp only [List.size_toArray, u8c_len]; omega, by simpa using hfr, hone⟩, ?_⟩
  have hwb := heap_ne (w := w) (o := .cells (splice c l.length (u8c s).toArray) 5 fr) (Ne.symm h7)
  rw [nk_p, fa_p, stF (by rw [hwb]; exact h1) (by simp) rfl]
  simp only [lenS_s, str_size]
  have e : (#[.pointer (some ⟨b, 0, none⟩), .slice (some ⟨bl, 0, none⟩) l.length cap] : Array Value).setIfInBounds (0 + 1) (.slice (some ⟨bl, 0, none⟩) (l.length + s.length) cap) = #[.pointer (some ⟨b, 0, none⟩), .slice (some ⟨bl, 0, none⟩) (l ++ s).length cap] := by rw [List.length_append]; rfl
  rw [e]
  refine hK _ ⟨⟨bl, splice c l.length (u8c s).toArray, fr, heap_self (by rw [live_setBlk]; exact live_of h1), by rw [heap_ne h7]; exact heap_self (live_of h2), ?_, by simpa using hc, ?_, h6.imp id fun ⟨a, b⟩ => ⟨a, by rw [List.length_append]; omega⟩, h7, h8, h9⟩, (h.kp.setBlk (.inr h9) _).setBlk (.inr h8) _⟩
  · rw [splice_size (by simp only [List.size_toArray, u8c_len]; omega), h3]
  · unfold splice
    simp only [List.length_append, List.size_toArray, u8c_len]
    rw [h5, List.take_append_of_le_length (by simp only [List.length_append, u8c_len]; omega), List.take_of_length_le (by simp only [List.length_append, u8c_len]; omega)]
    simp [u8c]
theorem bug_text (h : BuG w0 w b l cap) (h0 : l ≠ []) (hl : l.length < 2 ^ 40) (hK : ∀ w', BuG w0 w' b l cap → K (.string (str l)) w') : callG prog 61 #[.pointer (some ⟨b, 0, none⟩)] w K := by
  obtain ⟨bl, c, fr, h1, h2, h3, h4, h5, h6, h7, h8, h9⟩ := h.ex
  refine Fn108_call ?_
  simp only [Fn108, Fn108_s0]
  have hpos : l.length ≠ 0 := by simpa using h0
  simp [-getElem?_pos, -Array.all_eq_true, -Array.getElem?_eq_getElem, -List.length_flatten, gz0, gz1, h1]
  refine ⟨_, _, Go.Lib.run_unsafeSliceData_row _ _ _ _ _ _ (by omega), ?_⟩
  simp [-getElem?_pos, -Array.all_eq_true, -Array.getElem?_eq_getElem, -List.length_flatten, gz0, gz1, h1]
  refine ⟨_, _, Go.Lib.run_unsafeString_row (e := 5) w.drew 150 3 9 Tryz.underlying150 Tryz.cellsOf5 bl c.size (by simp [World.shape?, h2]) l h0 (by omega) (by omega) ?_, ?_⟩
  · intro j x hx
    have hj : j < l.length := (List.getElem?_eq_some_iff.1 hx).1
    have : c.toList[j]? = (u8c l)[j]? := by rw [← h5, List.getElem?_take_of_lt hj]
    simp only [add_mk, World.cell?, heap_drew, h2, Nat.zero_add]
    rw [← Array.getElem?_toList, this]
    simp [u8c, hx]
  · have hf : ∃ fr' : Nat × Nat, w.drew.freeze ⟨bl, 0, none⟩ l.length = setBlk w.drew bl (.cells c 5 fr') ∧ fr'.1 = 0 ∧ fr'.2 ≤ l.length := by
      obtain ⟨lo, hi⟩ := fr
      refine ⟨if lo == hi then (0, 0 + l.length) else (min lo 0, max hi (0 + l.length)), ?_, ?_⟩
      · unfold World.freeze
        rw [if_neg hpos]
        unfold setBlk
        congr 1
        apply Array.ext_getElem?
        intro j
        rw [Array.getElem?_modify, Array.getElem?_setIfInBounds]
        by_cases hj : bl = j
        · subst hj
          rw [if_pos rfl, if_pos rfl]
          have h2' : w.drew.heap[bl]? = some (.cells c 5 (lo, hi)) := h2
          rw [h2']
          have := (Array.getElem?_eq_some_iff.1 h2').1
          rw [if_pos this]
          rfl
        · rw [if_neg hj, if_neg hj]
      · rcases h6 with h6 | ⟨h6, h6'⟩
        · injection h6 with e1 e2
          subst e1 e2
          simp
        · have h6 : lo = 0 := h6
          have h6' : hi ≤ l.length := h6'
          subst h6
          split
          · simp
          · simp; omega
    obtain ⟨fr', hf, hf1, hf2⟩ := hf
    rw [hf]
    exact hK _ ⟨⟨bl, c, fr', by rw [heap_ne (Ne.symm h7)]; exact h1, heap_self (live_of h2), h3, h4, h5, .inr ⟨hf1, hf2⟩, h7, h8, h9⟩, (h.kp.drew).setBlk (.inr h9) _⟩
theorem bug_grow {n : Nat} (hn : 1 ≤ n) (hn2 : n ≤ 4000) (hK : ∀ w' cap b, n ≤ cap → BuG w w' b [] cap → K (.pointer (some ⟨b, 0, none⟩)) w') :
    newG (zc prog 110) 110 w fun t9 w => callG prog 127 #[t9, .int .i64 (n : Nat)] w fun _ w => K t9 w := by
  refine newB fun b w1 hb h1 k1 => ?_
  rw [zcB] at h1
  refine Fn106_call ?_
  unfold Fn106 Fn106_s1
  -- the builder notes itself
  have hchk : ∀ {K : KW}, (∀ w', w'.heap[b]? = some (.cells #[.pointer (some ⟨b, 0, none⟩), .slice none 0 0] 110) → Kp [] w w' → K (.tuple #[]) w') → callG prog 101 #[.pointer (some ⟨b, 0, none⟩)] w1 K := by
    intro K hK
    refine Fn111_call ?_
    simp only [Fn111, Fn111_s0]
    simp [-getElem?_pos, -Array.all_eq_true, -Array.getElem?_eq_getElem, -List.length_flatten, gz0, gz1, h1]
    refine to_unsafe h1 rfl ?_
    refine no_escape ?_
    refine from_unsafe h1 rfl ?_
    have lb := live_of h1
    simp [-getElem?_pos, -Array.all_eq_true, -Array.getElem?_eq_getElem, -List.length_flatten, gz0, gz1, h1, lb]
    exact hK _ (heap_self lb) (k1.setBlk (.inr hb) _)
  refine hchk fun w2 h2 k2 => ?_
  simp only [bq_lss, bV_b, decide_eq_true_eq, decide_eq_false_iff_not]
  refine ⟨fun h => by omega, fun _ => ?_⟩
  unfold Fn106_s0
  have h2d : w2.drew.heap[b]? = some (.cells #[.pointer (some ⟨b, 0, none⟩), .slice none 0 0] 110) := h2
  have hcap : ∀ (w : World) (K : Value → Prop), qG prog (Builtin.cap_ #[96] 3 #[.slice none 0 0]) w K = K (.int .i64 0) := fun w K => qG_of (by rfl)
  rw [nk_p, fa_p, ldF (x := .slice none 0 0) h2d rfl, hcap, nk_p, fa_p, ldF (x := .slice none 0 0) h2d rfl, lenL_s]
  have e0 : IntKind.i64.wrap (0 - ((0 : Nat) : Int)) = 0 := by decide
  simp only [bq_sub, e0, bq_lss, bV_b, decide_eq_true_eq, decide_eq_false_iff_not]
  refine ⟨fun _ => ?_, fun h => by omega⟩
  refine Fn112_call ?_
  unfold Fn112 Fn112_s0
  have h3 : w2.drew.drew.heap[b]? = some (.cells #[.pointer (some ⟨b, 0, none⟩), .slice none 0 0] 110) := h2
  rw [nk_p, fa_p, ldF (x := .slice none 0 0) h3 rfl, hcap]
  have e1 : IntKind.i64.wrap (2 * 0) = 0 := by decide
  have e2 : IntKind.i64.wrap (0 + (n : Int)) = (n : Int) := by rw [w64 (by omega) (by omega)]; simp
  simp only [bq_mul, e1, bq_add, e2]
  rw [nk_p, fa_p, ldF (x := .slice none 0 0) h3 rfl, lenL_s]
  obtain ⟨cs, hrun, hcs, _⟩ := Go.Lib.run_makeNoZero (P := prog) w2.drew.drew #[3] 96 5 Tryz.underlying96 n (by omega)
  obtain ⟨W, hW⟩ : ∃ W, W = w2.drew.drew := ⟨_, rfl⟩
  rw [← hW] at hrun h3 ⊢
  have kW : Kp [] w W := by rw [hW]; exact (k2.drew).drew
  obtain ⟨w4, hw4⟩ : ∃ w4, w4 = W.drew.drew.alloc (.cells cs 5) := ⟨_, rfl⟩
  have k4 : Kp [] W w4 := by rw [hw4]; exact ((Kp.refl [] W).drew.drew).alloc _
  have hbl : w4.heap[W.heap.size]? = some (.cells cs 5) := by rw [hw4]; exact heap_new
  refine ⟨.slice (some ⟨W.heap.size, 0, none⟩) n cs.size, w4, ?_, ?_⟩
  · rw [run_callFunc_extern (e := Extern.BytealgMakeNoZero.makeNoZero #[3] #[96]) Tryz.func148 (by kernel_rfl) rfl (by kernel_rfl) (by kernel_rfl), hrun, hw4]
    rfl
  have h4 := k4.get h3 (by simp)
  dsimp only
  rw [ldF (x := .slice none 0 0) h4 rfl]
  refine ⟨rfl, ?_⟩
  have hsl : ∀ K : Value → Prop, slL 1 (.slice (some ⟨W.heap.size, 0, none⟩) n cs.size) none (some (.int .i64 ((0 : Nat) : Int))) K = K (.slice (some ⟨W.heap.size, 0, none⟩) 0 cs.size) := fun K => by simp
  rw [hsl, nk_p, fa_p, ldF (x := .slice none 0 0) h4 rfl]
  have hlb := lt_of_blk h3
  have hcp : ∀ K : KW, K (.int .i64 0) w4 → cp 1 (.slice (some ⟨W.heap.size, 0, none⟩) 0 cs.size) (.slice none 0 0) w4 K := fun K hK => by
    simp only [cp, src, wrO, add_mk, wrN_mk, hbl]
    have e : splice cs (0 + 0) #[] = cs := by simp [splice]
    rw [e, setBlk_same hbl]
    exact ⟨⟨by simp, by rw [okFr0]; trivial, by simp⟩, hK⟩
  refine hcp _ ?_
  rw [nk_p, fa_p, stF h4 (by simp) rfl]
  have hs := kW.size
  refine hK _ cs.size b hcs ⟨⟨W.heap.size, cs, (0, 0), heap_self (live_of h4), by rw [heap_ne (by omega)]; exact hbl, rfl, by simp, by simp [u8c], .inl rfl, by omega, hb, hs⟩, (kW.trans' k4).setBlk (.inr hb) _⟩
theorem rep_take {m k : Nat} (h : m ≤ k) : (List.replicate k (0 : UInt8)).take m = List.replicate m 0 := by rw [List.take_replicate, Nat.min_eq_left h]
theorem run_min3 {P : Program} {ts : Array TypeId} {t : TypeId} {k : IntKind} {a b c : Int} {w : World} : (Builtin.min_ ts t #[.int k a, .int k b, .int k c]).run P w = .ok (.int k (min (min a b) c)) w := by
  simp only [Builtin.min_, List.foldlM_cons, List.foldlM_nil, Builtin.min2, pure_bind]
  show Result.ok _ _ = _
  congr 2; omega
theorem Repeat_any {n : Nat} (hn2 : n ≤ 4000) {R : KW} (hR : ∀ w', Kp [] w w' → R (.string (str (List.replicate n 0))) w') : callG prog 105 #[.string (str [0]), .int .i64 (n : Nat)] w R := by
  refine Fn114_call ?_
  unfold Fn114 Fn114_s22
  simp only [bq_eql, bq_lss, bV_b, decide_eq_true_eq, decide_eq_false_iff_not]
  refine ⟨fun h => ?_, fun h0 => ⟨fun h => ?_, fun h1 => ⟨fun h => by omega, fun _ => ?_⟩⟩⟩
  · have : n = 0 := by omega
    subst this
    exact hR w (Kp.refl _ _)
  · have : n = 1 := by omega
    subst this
    exact hR w (Kp.refl _ _)
  have hn1 : 2 ≤ n := by omega
  unfold Fn114_s21
  have hl1 : ∀ K : Value → Prop, lenS (.string (str [0])) K = K (.int .i64 1) := fun K => rfl
  have ec : IntKind.u64.wrap (n : Int) = (n : Int) := wrap_natu64 (by omega)
  have ec2 : IntKind.i64.wrap (n : Int) = (n : Int) := wrap_nat64 (by omega)
  rw [hl1, cvI_i, cvI_i, show IntKind.u64.wrap 1 = 1 from rfl, ec]
  refine mul_one (by omega) ?_
  rw [ex0, ex1]
  simp only [bq_gtr, bV_b, decide_eq_true_eq, decide_eq_false_iff_not]
  refine ⟨fun h => by omega, fun _ => ⟨fun h => by omega, fun _ => ?_⟩⟩
  unfold Fn114_s20
  rw [cvI_i, ec2, hl1]
  simp only [bq_eql, bV_b, decide_eq_true_eq, decide_eq_false_iff_not]
  refine ⟨fun h => by omega, fun _ => ?_⟩
  unfold Fn114_s19 Fn114_s18
  have hix : ∀ K : Value → Prop, ixS (.string (str [0])) (.int .i64 0) K = K (.int .u8 0) := fun K => ixS_str (s := [0]) (kd := .i64) (i := 0) (by simp)
  rw [hix]
  simp only [bq_eql, bV_b]
  refine ⟨fun h => by simp at h, fun _ => ⟨fun h => by simp at h, fun _ => ⟨fun h => by simp at h, fun _ => ⟨fun h => by simp at h, fun _ => ?_⟩⟩⟩⟩
  unfold Fn114_s17
  have ed : decide ((0 : Int) = 9) = false := rfl
  rw [ed]
  simp only [bV_b]
  refine ⟨fun h => by simp at h, fun _ => ?_⟩
  unfold Fn114_s16 Fn114_s4
  simp only [bq_gtr, bV_b, decide_eq_true_eq, decide_eq_false_iff_not]
  refine ⟨fun h => by omega, fun _ => ?_⟩
  unfold Fn114_s3
  refine bug_grow (by omega) (by omega) fun w1 cap b hcap h1 => ?_
  refine bug_write h1 [0] (by simp; omega) fun w2 h2 => ?_
  unfold Fn114_L2
  refine loop_inv (fun m xs wi => ∃ k, 1 ≤ k ∧ k ≤ n ∧ m = n - k ∧ xs = [.int .i64 (n : Nat), .int .i64 (n : Nat), .pointer (some ⟨b, 0, none⟩)] ∧ BuG w wi b (List.replicate k 0) cap) ?_ (m := n - 1) ⟨1, by omega, by omega, rfl, rfl, h2⟩
  rintro m N xs wi ⟨k, hk1, hk2, rfl, rfl, hb⟩ hN
  have hlen : (List.replicate k (0 : UInt8)).length = k := by simp
  have hne : List.replicate k (0 : UInt8) ≠ [] := by
    intro h
    have := congrArg List.length h
    simp at this
    omega
  unfold Fn114_L2F Fn114_b1
  dsimp only
  refine bug_len hb ?_
  rw [hlen]
  simp only [bq_lss, bV_b, decide_eq_true_eq, decide_eq_false_iff_not]
  refine ⟨fun hlt => ?_, fun hge => ?_⟩
  · refine bug_len hb ?_
    rw [hlen]
    have e1 : IntKind.i64.wrap ((n : Int) - (k : Int)) = ((n - k : Nat) : Int) := by rw [w64 (by omega) (by omega)]; omega
    simp only [bq_sub, e1]
    refine bug_len hb ?_
    rw [hlen, qG_of run_min3]
    obtain ⟨m, hm⟩ : ∃ m, m = min (n - k) k := ⟨_, rfl⟩
    have e2 : min (min ((n - k : Nat) : Int) (k : Int)) (n : Int) = (m : Int) := by omega
    rw [e2]
    refine bug_text hb hne (by rw [hlen]; omega) fun w3 h3 => ?_
    have e3 : ∀ K : Value → Prop, slS (.string (str (List.replicate k 0))) none (some (.int .i64 (m : Nat))) K = K (.string (str (List.replicate m 0))) := fun K => by
      have hle : (0 : Int) ≤ (m : Int) ∧ (m : Int) ≤ ((str (List.replicate k 0)).size : Nat) := by rw [str_size, hlen]; omega
      simp only [slS, bnd, hle, true_and, and_self, Int.toNat_natCast]
      rw [str_extract, List.drop_zero, rep_take (by omega)]
    rw [e3]
    refine bug_write h3 (List.replicate m 0) (by simp; omega) fun w4 h4 => ?_
    rw [List.replicate_append_replicate] at h4
    exact hN (n - (k + m)) _ _ (by omega) ⟨k + m, by omega, by omega, rfl, rfl, h4⟩
  · have : k = n := by omega
    subst this
    unfold Fn114_s0
    refine bug_text hb hne (by rw [hlen]; omega) fun w3 h3 => ?_
    exact hR w3 h3.kp
end
end Go.Proofs

set_option maxRecDepth 100000
set_option linter.unusedVariables false
set_option linter.unusedSimpArgs false
namespace Go.Proofs
open Go Go.Q
open Tryz (prog)
section
variable {w w' : World} {R : KW}
theorem filled_k {s : List UInt8} {n : Nat} (h : s.length ≤ n) (hn : n ≤ 4000) (hR : ∀ w', Kp [] w w' → R (.string (str (s ++ List.replicate (n - s.length) 0))) w') : callG prog 81 #[.string (str s), .int .i64 (n : Nat)] w R := by
  refine Fn41_call ?_
  unfold Fn41 Fn41_s0
  have e : IntKind.i64.wrap ((n : Int) - (s.length : Int)) = ((n - s.length : Nat) : Int) := by rw [w64 (by omega) (by omega)]; omega
  simp only [lenS_s, str_size, bq_sub, e]
  rw [show (Value.string ⟨#[0]⟩) = .string (str [0]) from rfl]
  refine Repeat_any (by omega) fun w' k => ?_
  rw [bq_sadd (by rw [str_size, str_size, List.length_replicate]; omega), str_append]
  exact hR w' k
def headK (t : Int) : List UInt8 := put4 t ++ put4 (crcMore 0 (put4 t)) ++ List.replicate 24 0
theorem headK_len (t : Int) : (headK t).length = 32 := by simp [headK, put4]
theorem head_k (t : Int) (hR : ∀ w', Kp [] w w' → R (.string (str (headK t))) w') : callG prog 37 #[.int .i64 t] w R := by
  refine Fn42_call ?_
  unfold Fn42 Fn42_s0
  have l4 : ∀ x, (put4 x).length = 4 := fun x => rfl
  refine crcPut_spec _ fun w1 k1 => ?_
  refine Sum_spec _ (by rw [l4]; omega) ?_
  refine crcPut_spec _ fun w2 k2 => ?_
  rw [bq_sadd (by rw [str_size, str_size, l4, l4]; omega), str_append, show (Value.int .i64 32) = .int .i64 ((32 : Nat) : Int) from rfl]
  refine filled_k (by simp [l4]) (by omega) fun w3 k3 => ?_
  have : 32 - (put4 t ++ put4 (crcMore 0 (put4 t))).length = 24 := by simp [l4]
  rw [this]
  exact hR w3 ((k1.trans' k2).trans' k3)
def areaL (n t : Nat) : Nat := 2 + t % 2 * ((n - 2) / 2)
theorem area_k {bd : Nat} {d : DK} {S : List Nat} (hd : DiskAt w bd d S) (h2 : 2 ≤ d.now.length) (t : Nat) (hR : R (.tuple #[.int .i64 (areaL d.now.length t : Nat), .int .i64 (areaL d.now.length t + (d.now.length - 2) / 2 : Nat)]) w) : callG prog 83 #[.pointer (some ⟨bd, 0, none⟩), .int .i64 (t : Nat)] w R := by
  refine Fn40_call ?_
  unfold Fn40 Fn40_s0
  have hm := hd.ok.most
  generalize hn : d.now.length = n at *
  refine Size_spec hd ?_
  rw [hn]
  have e1 : IntKind.i64.wrap ((n : Int) - 2) = ((n - 2 : Nat) : Int) := by rw [w64 (by omega) (by omega)]; omega
  have e2 : (((n - 2 : Nat) : Int) / 2) = (((n - 2) / 2 : Nat) : Int) := by simp
  have e3 : IntKind.i64.wrap (((n - 2) / 2 : Nat) : Int) = (((n - 2) / 2 : Nat) : Int) := wrap_nat64 (by omega)
  have e4 : ((t : Int) % 2) = ((t % 2 : Nat) : Int) := by simp
  have hle : t % 2 * ((n - 2) / 2) ≤ (n - 2) / 2 := by
    rcases (show t % 2 = 0 ∨ t % 2 = 1 by omega) with h | h <;> rw [h] <;> omega
  have e5 : IntKind.i64.wrap (((t % 2 : Nat) : Int) * (((n - 2) / 2 : Nat) : Int)) = ((t % 2 * ((n - 2) / 2) : Nat) : Int) := by
    rw [← Int.natCast_mul]; exact wrap_nat64 (by omega)
  have e6 : IntKind.i64.wrap (2 + ((t % 2 * ((n - 2) / 2) : Nat) : Int)) = ((areaL n t : Nat) : Int) := by
    rw [w64 (by omega) (by omega)]; unfold areaL; omega
  have e7 : IntKind.i64.wrap (((areaL n t : Nat) : Int) + (((n - 2) / 2 : Nat) : Int)) = ((areaL n t + (n - 2) / 2 : Nat) : Int) := by
    rw [w64 (by unfold areaL; omega) (by unfold areaL; omega)]; simp
  simp only [bq_sub, e1]
  rw [quo_of (by omega) (by omega), e2, e3, rem_of (by omega) (by omega), e4]
  simp only [bq_mul, e5, bq_add, e6, e7]
  exact hR
def recS (s : SV) : List UInt8 := 83 :: (putRow (rowS s)).1
def recH (h : HV) : List UInt8 := 72 :: (putRow (rowH stateT h)).1
def recM (m : HV) : List UInt8 := 77 :: (putRow (rowH kindT m)).1
def recE (n : Int) : List UInt8 := 69 :: (putRow [numV n]).1
def recL (l : LV) : List (List UInt8) := l.st.map recS ++ l.ho.map recH ++ l.mo.map recM ++ [recE l.ops]
structure LWf (l : LV) : Prop where
  st : ∀ s ∈ l.st, ∀ v ∈ rowS s, v.Wf
  ho : ∀ h ∈ l.ho, ∀ v ∈ rowH stateT h, v.Wf
  mo : ∀ m ∈ l.mo, ∀ v ∈ rowH kindT m, v.Wf
  ops : (numV l.ops).Wf
structure OutV (w0 w : World) (x : Nat) (L : List (List UInt8)) : Prop where
  ex : ∃ v S, w.heap[x]? = some (.cells #[v] 29) ∧ RowsAt w v 1 (L.map strV) S ∧ x ∉ S ∧ ∀ y ∈ S, w0.heap.size ≤ y
  x0 : w0.heap.size ≤ x
  kp : Kp [] w0 w
theorem OutV.keep {w0 : World} {x : Nat} {L : List (List UInt8)} (h : OutV w0 w x L) (hk : Kp [] w w') : OutV w0 w' x L := by
  obtain ⟨v, S, h1, h2, h3, h4⟩ := h.ex
  exact ⟨⟨v, S, hk.get h1 (by simp), h2.keep hk (by simp), h3, h4⟩, h.x0, h.kp.trans' hk⟩
theorem put_k {w0 : World} {x : Nat} {L : List (List UInt8)} (h : OutV w0 w x L) (hl : L.length < 2 ^ 30) (c : UInt8) {rv : Value} {r : List V3} (hr : Rd w rv 3 (r.map valV)) (hw : ∀ v ∈ r, v.Wf) (hlen : r.length ≤ 255)
    (hR : ∀ w', OutV w0 w' x (L ++ [c :: (putRow r).1]) → R (.tuple #[]) w') : callG prog 23 #[.string (str [c]), rv, .pointer (some ⟨x, 0, none⟩)] w R := by
  refine Fn39_call ?_
  unfold Fn39 Fn39_s0
  refine Put_spec hr hw (by omega) fun w1 k1 => ?_
  rw [ex0, ex1]
  have h1 := h.keep k1
  have hx0 := h.x0
  obtain ⟨v, S, g1, g2, g3, g4⟩ := h1.ex
  have hpl := putRow_len hlen
  rw [ldF (w := w1) g1 (j := 0) (x := v) rfl, bq_sadd (by rw [str_size, str_size]; simp; omega), str_append]
  rw [bsl_one rfl]
  obtain ⟨w2, hw2⟩ : ∃ w2, w2 = w1.alloc (.cells #[.string (str ([c] ++ (putRow r).1))] 9) := ⟨_, rfl⟩
  have k2 : Kp [] w1 w2 := by rw [hw2]; exact (Kp.refl [] w1).alloc _
  have hb2 : w2.heap[w1.heap.size]? = some (.cells #[.string (str ([c] ++ (putRow r).1))] 9) := by rw [hw2]; exact heap_new
  rw [← hw2, zc9]
  have hs2 : RdAt w2 (.slice (some ⟨w1.heap.size, 0, none⟩) 1 1) 1 [strV ([c] ++ (putRow r).1)] [w1.heap.size] :=
    .inr ⟨_, 0, 1, _, _, _, rfl, rfl, hb2, by simp [strV], by simp, by simp [strV], by simp⟩
  have z1 := h1.kp.size
  have z2 := k2.size
  refine rows_app (k := 1) (z := [.string ⟨#[]⟩]) (G := [strV ([c] ++ (putRow r).1)]) (g2.keep k2 (by simp)) (by omega) rfl (by simp [strV]) (by simp [strV, Q.one]) (fun K' hK' => hs2.src K' hK') (by simp; omega) (by simp; omega) fun v4 w4 S4 h4 k4 hS4 => ?_
  have g14 := k4.get (k2.get g1 (by simp)) g3
  have lx := lt_of_blk g1
  have hxS4 : x ∉ S4 := fun hm => by
    rcases hS4 x hm with h | h
    · exact g3 h
    · omega
  rw [stF g14 (by simp) (rows_one h4)]
  have k5 : Kp [x] w4 (setBlk w4 x (.cells ((#[v] : Array Value).setIfInBounds 0 v4) 29)) := (Kp.refl _ _).setBlk (.inl (by simp)) _
  refine hR _ ⟨⟨v4, S4, heap_self (live_of g14), ?_, hxS4, fun y hy => ?_⟩, hx0, ?_⟩
  · have := h4.keep k5 (fun y hy hm => by simp at hm; subst hm; exact hxS4 hy)
    rw [List.map_append]
    exact this
  · rcases hS4 y hy with h | h
    · exact g4 y h
    · omega
  · exact ((h1.kp.trans' k2).trans k4 fun y hy hlt => by have := g4 y hy; omega).trans k5 fun y hy hlt => by simp at hy; omega
theorem Records_k {v : Value} {l : LV} (hm : May l) (hw : LWf l) (hv : LedAt w v l) (hR : ∀ w' v' , Fr w w' v' 1 ((recL l).map strV) → R (.tuple #[v', .int .i64 0]) w') : callG prog 8 #[v] w R := by
  refine Fn38_call ?_
  unfold Fn38 Fn38_s10
  refine boxLed hv fun x1 a b c w1 hx1 k1 hb1 he => ?_
  rw [hb1.ld]
  refine Check_spec7 hm hb1.at fun w2 k2 => ?_
  simp only [bq_neq, bV_b, decide_eq_true_eq]
  refine ⟨fun hh => absurd rfl hh, fun _ => ?_⟩
  refine newB fun x5 w3 hx5 h5 k3 => ?_
  have z1 := k1.size
  have z2 := k2.size
  have z3 := k3.size
  have hb3 := (hb1.keep k2).keep k3
  have hfew := hm.few
  unfold fullL at hfew
  simp only [decide_eq_false_iff_not, not_or, Nat.not_lt] at hfew
  obtain ⟨fw1, fw2, fw3⟩ := hfew
  have o0 : OutV w2 w3 x5 [] := ⟨⟨.slice none 0 0, [], by rw [h5]; rfl, .inl ⟨rfl, rfl, rfl⟩, by simp, by simp⟩, hx5, k3⟩
  have hx1c : w2.heap[x1]? = some (.cells #[a, b, c, .int .i64 l.ops] 26) := (hb1.keep k2).h
  rw [mk_func]
  have hput : ∀ (w4 : World) (L : List (List UInt8)) (cc : UInt8) (rv : Value) (r : List V3) (K : KW), OutV w2 w4 x5 L → L.length < 2 ^ 30 → Rd w4 rv 3 (r.map valV) → (∀ v ∈ r, v.Wf) → r.length ≤ 255 → (∀ w', OutV w2 w' x5 (L ++ [cc :: (putRow r).1]) → K (.tuple #[]) w') →
      callV prog (.func (.func 23) #[] #[.pointer (some ⟨x5, 0, none⟩)]) #[.string (str [cc]), rv] w4 K := fun w4 L cc rv r K ho hl hr hw hlen hK => ⟨by kernel_rfl, put_k ho hl cc hr hw hlen hK⟩
  obtain ⟨a', b', c', e, r1, r2, r3⟩ := hv
  rw [he] at e
  simp only [Value.agg.injEq, Array.mk.injEq, List.cons.injEq] at e
  obtain ⟨rfl, rfl, rfl, _⟩ := e
  have k12 := k1.trans' k2
  have ldc : ∀ w4, Kp [] w2 w4 → (∀ K : Value → Prop, ld1 (.pointer (some ⟨x1, 0 + 0, none⟩)) w4 K = K a) ∧ (∀ K : Value → Prop, ld1 (.pointer (some ⟨x1, 0 + 1, none⟩)) w4 K = K b) ∧ (∀ K : Value → Prop, ld1 (.pointer (some ⟨x1, 0 + 2, none⟩)) w4 K = K c) ∧ (∀ K : Value → Prop, ld1 (.pointer (some ⟨x1, 0 + 3, none⟩)) w4 K = K (.int .i64 l.ops)) := fun w4 k =>
    ⟨fun K => ldF (k.get hx1c (by simp)) rfl, fun K => ldF (k.get hx1c (by simp)) rfl, fun K => ldF (k.get hx1c (by simp)) rfl, fun K => ldF (k.get hx1c (by simp)) rfl⟩
  have hlS : (l.st.map recS).length ≤ 4096 := by simpa using fw1
  have hlH : (l.ho.map recH).length ≤ 4096 := by simpa using fw2
  have hlM : (l.mo.map recM).length ≤ 4096 := by simpa using fw3
  have rl : ∀ h : HV, ∀ txt, (rowH txt h).length ≤ 255 := fun h txt => by unfold rowH; split <;> simp
  -- the last one
  have fin : ∀ w4, OutV w2 w4 x5 (l.st.map recS ++ l.ho.map recH ++ l.mo.map recM) → Fn38_s0 R (.pointer (some ⟨x1, 0, none⟩)) (.pointer (some ⟨x5, 0, none⟩)) (.func (.func 23) #[] #[.pointer (some ⟨x5, 0, none⟩)]) w4 := by
    intro w4 o4
    unfold Fn38_s0
    rw [fa_p, (ldc w4 o4.kp).2.2.2]
    have hbl : ∀ K : Value → Prop, bld [(0, 1), (1, 1), (2, 1)] (zc prog 76) #[(0, .int .i64 1), (1, .int .i64 l.ops)] K = K (.agg (valV (numV l.ops)).toArray) := fun K => by rw [zcV]; rfl
    rw [hbl]
    refine bsl_rowN (n := 3) (cs := valV (numV l.ops)) (by omega) rfl rfl fun v5 w5 hf5 => ?_
    rw [show (Value.string ⟨#[69]⟩) = .string (str [69]) from rfl]
    refine hput w5 _ 69 v5 [numV l.ops] _ (o4.keep hf5.kp) (by simp only [List.length_append]; omega) hf5.rd (by intro v hv; simp at hv; rw [hv]; exact hw.ops) (by simp) fun w6 o6 => ?_
    obtain ⟨v, S, g1, g2, g3, g4⟩ := o6.ex
    rw [ldF (w := w6) g1 (j := 0) (x := v) rfl]
    exact hR w6 v ⟨⟨S, g2, fun y hy => by have := g4 y hy; omega⟩, k12.trans' o6.kp⟩
  have e1 : ∀ k : Nat, k ≤ 4096 → IntKind.i64.wrap ((k : Int) + 1) = ((k + 1 : Nat) : Int) := fun k hk => by rw [w64 (by omega) (by omega)]; simp
  have sM : ∀ w4, OutV w2 w4 x5 (l.st.map recS ++ l.ho.map recH) → Fn38_s3 R (.pointer (some ⟨x1, 0, none⟩)) (.pointer (some ⟨x5, 0, none⟩)) (.func (.func 23) #[] #[.pointer (some ⟨x5, 0, none⟩)]) w4 := by
    intro w4 o4
    unfold Fn38_s3
    rw [fa_p, (ldc w4 o4.kp).2.2.1, r3.lenL, List.length_map]
    unfold Fn38_L2
    refine loop_inv (fun m xs w' => ∃ k, k ≤ l.mo.length ∧ m = l.mo.length - k ∧ xs = [.pointer (some ⟨x1, 0, none⟩), .pointer (some ⟨x5, 0, none⟩), .func (.func 23) #[] #[.pointer (some ⟨x5, 0, none⟩)], c, .int .i64 (l.mo.length : Nat), .int .i64 (k : Nat)] ∧ OutV w2 w' x5 (l.st.map recS ++ l.ho.map recH ++ (l.mo.take k).map recM)) ?_ (m := l.mo.length) ⟨0, by omega, rfl, rfl, by simpa using o4⟩
    rintro m N xs w5 ⟨k, hk, rfl, rfl, o5⟩ hN
    unfold Fn38_L2F Fn38_b1
    dsimp only
    simp only [bq_lss, bV_b, decide_eq_true_eq, decide_eq_false_iff_not]
    refine ⟨fun hlt => ?_, fun hge => ?_⟩
    · have hlt : k < l.mo.length := by omega
      obtain ⟨pe, i1, i2⟩ := rd_hold (r3.keep (k12.trans' o5.kp)) hlt
      rw [i1, i2]
      refine boxMove (by rw [zcMove]; rfl) fun x7 w6 hx7 h7 k6 => ?_
      rw [ldHold h7]
      refine MoveRow_spec _ fun rv w7 k7 hrv => ?_
      rw [show (Value.string ⟨#[77]⟩) = .string (str [77]) from rfl]
      refine hput w7 _ 77 rv _ _ (o5.keep (k6.trans' k7)) (by simp only [List.length_append, List.length_map, List.length_take]; simp only [List.length_map] at hlS hlH; omega) hrv (hw.mo _ (List.getElem_mem hlt)) (rl _ _) fun w8 o8 => ?_
      simp only [bq_add, e1 k (by omega)]
      refine hN (l.mo.length - (k + 1)) _ w8 (by omega) ⟨k + 1, by omega, rfl, rfl, ?_⟩
      rw [take_snoc hlt, List.map_append, ← List.append_assoc]
      exact o8
    · have : k = l.mo.length := by omega
      subst this
      rw [List.take_length] at o5
      exact fin w5 o5
  have sH : ∀ w4, OutV w2 w4 x5 (l.st.map recS) → Fn38_s6 R (.pointer (some ⟨x1, 0, none⟩)) (.pointer (some ⟨x5, 0, none⟩)) (.func (.func 23) #[] #[.pointer (some ⟨x5, 0, none⟩)]) w4 := by
    intro w4 o4
    unfold Fn38_s6
    rw [fa_p, (ldc w4 o4.kp).2.1, r2.lenL, List.length_map]
    unfold Fn38_L5
    refine loop_inv (fun m xs w' => ∃ k, k ≤ l.ho.length ∧ m = l.ho.length - k ∧ xs = [.pointer (some ⟨x1, 0, none⟩), .pointer (some ⟨x5, 0, none⟩), .func (.func 23) #[] #[.pointer (some ⟨x5, 0, none⟩)], b, .int .i64 (l.ho.length : Nat), .int .i64 (k : Nat)] ∧ OutV w2 w' x5 (l.st.map recS ++ (l.ho.take k).map recH)) ?_ (m := l.ho.length) ⟨0, by omega, rfl, rfl, by simpa using o4⟩
    rintro m N xs w5 ⟨k, hk, rfl, rfl, o5⟩ hN
    unfold Fn38_L5F Fn38_b4
    dsimp only
    simp only [bq_lss, bV_b, decide_eq_true_eq, decide_eq_false_iff_not]
    refine ⟨fun hlt => ?_, fun hge => ?_⟩
    · have hlt : k < l.ho.length := by omega
      obtain ⟨pe, i1, i2⟩ := rd_hold (r2.keep (k12.trans' o5.kp)) hlt
      rw [i1, i2]
      refine boxHold (by rw [zcHold]; rfl) fun x7 w6 hx7 h7 k6 => ?_
      rw [ldHold h7]
      refine HoldRow_spec _ fun rv w7 k7 hrv => ?_
      rw [show (Value.string ⟨#[72]⟩) = .string (str [72]) from rfl]
      refine hput w7 _ 72 rv _ _ (o5.keep (k6.trans' k7)) (by simp only [List.length_append, List.length_map, List.length_take]; simp only [List.length_map] at hlS hlH; omega) hrv (hw.ho _ (List.getElem_mem hlt)) (rl _ _) fun w8 o8 => ?_
      simp only [bq_add, e1 k (by omega)]
      refine hN (l.ho.length - (k + 1)) _ w8 (by omega) ⟨k + 1, by omega, rfl, rfl, ?_⟩
      rw [take_snoc hlt, List.map_append, ← List.append_assoc]
      exact o8
    · have : k = l.ho.length := by omega
      subst this
      rw [List.take_length] at o5
      exact sM w5 o5
  unfold Fn38_s9
  rw [fa_p, (ldc w3 k3).1, r1.lenL, List.length_map]
  unfold Fn38_L8
  refine loop_inv (fun m xs w' => ∃ k, k ≤ l.st.length ∧ m = l.st.length - k ∧ xs = [.pointer (some ⟨x1, 0, none⟩), .pointer (some ⟨x5, 0, none⟩), .func (.func 23) #[] #[.pointer (some ⟨x5, 0, none⟩)], a, .int .i64 (l.st.length : Nat), .int .i64 (k : Nat)] ∧ OutV w2 w' x5 ((l.st.take k).map recS)) ?_ (m := l.st.length) ⟨0, by omega, rfl, rfl, by simpa using o0⟩
  rintro m N xs w5 ⟨k, hk, rfl, rfl, o5⟩ hN
  unfold Fn38_L8F Fn38_b7
  dsimp only
  simp only [bq_lss, bV_b, decide_eq_true_eq, decide_eq_false_iff_not]
  refine ⟨fun hlt => ?_, fun hge => ?_⟩
  · have hlt : k < l.st.length := by omega
    obtain ⟨pe, i1, i2⟩ := rd_stock (r1.keep (k12.trans' o5.kp)) hlt
    rw [i1, i2]
    refine boxStock (by rw [zcStock]; rfl) fun x7 w6 hx7 h7 k6 => ?_
    rw [ldStock h7]
    refine StockRow_spec _ fun rv w7 k7 hrv => ?_
    rw [show (Value.string ⟨#[83]⟩) = .string (str [83]) from rfl]
    refine hput w7 _ 83 rv _ _ (o5.keep (k6.trans' k7)) (by simp only [List.length_map, List.length_take]; omega) hrv (hw.st _ (List.getElem_mem hlt)) (by simp [rowS]) fun w8 o8 => ?_
    simp only [bq_add, e1 k (by omega)]
    refine hN (l.st.length - (k + 1)) _ w8 (by omega) ⟨k + 1, by omega, rfl, rfl, ?_⟩
    rw [take_snoc hlt, List.map_append]
    exact o8
  · have : k = l.st.length := by omega
    subst this
    rw [List.take_length] at o5
    exact sH w5 o5
end
end Go.Proofs

set_option maxRecDepth 100000
set_option linter.unusedVariables false
set_option linter.unusedSimpArgs false
namespace Go.Proofs
open Go Go.Q
open Tryz (prog)
def sec (L : List (List UInt8)) (i : Nat) : List UInt8 := L.getD i []
theorem sec_set {L : List (List UInt8)} {i j : Nat} {x : List UInt8} (hi : i < L.length) : sec (L.set i x) j = if j = i then x else sec L j := by
  unfold sec
  by_cases h : j = i
  · subst h; simp [List.getD, hi]
  · rw [if_neg h]; simp only [List.getD]; rw [List.getElem?_set_ne (fun hh => h hh.symm)]
theorem applyAll_snoc (L : List (List UInt8)) (l : List (Nat × List UInt8)) (x : Nat × List UInt8) : applyAll L (l ++ [x]) = (applyAll L l).set x.1 x.2 := by simp [applyAll]
def Flow (d : DK) : Prop := d.now = applyAll d.sure d.l
theorem flow_fresh (n : Nat) : Flow (DK.fresh n) := rfl
structure Wk (d dk : DK) (a n : Nat) (t : List UInt8) : Prop where
  calm : Calm dk
  flow : Flow dk
  sure : dk.sure = d.sure
  len : dk.now.length = d.now.length
  rows : ∀ x ∈ dk.now, x.length = 32
  few : dk.l.length = d.l.length + n
  inn : ∀ k, k < n → sec dk.now (a + k) = (t.drop (32 * k)).take 32
  out : ∀ i, i < a ∨ a + n ≤ i → sec dk.now i = sec d.now i
theorem Wk.zero {d : DK} (hc : Calm d) (hf : Flow d) (hr : ∀ x ∈ d.now, x.length = 32) (a : Nat) (t : List UInt8) : Wk d d a 0 t := ⟨hc, hf, rfl, rfl, hr, rfl, fun k hk => by omega, fun i _ => rfl⟩
theorem Wk.step {d dk : DK} {a n : Nat} {t : List UInt8} (h : Wk d dk a n t) (ha : a + n < d.now.length) (ht : 32 * n + 32 ≤ t.length) : (dk.write ((a + n : Nat) : Int) ((t.drop (32 * n)).take 32)).2 = 0 ∧ Wk d (dk.write ((a + n : Nat) : Int) ((t.drop (32 * n)).take 32)).1 a (n + 1) t := by
  have hl : ((t.drop (32 * n)).take 32).length = 32 := by rw [List.length_take, List.length_drop]; omega
  have hi : a + n < dk.now.length := by rw [h.len]; exact ha
  rw [write_calm h.calm.off h.calm.fuse hi hl]
  refine ⟨rfl, ⟨⟨h.calm.off, h.calm.fuse⟩, ?_, h.sure, by simp [h.len], fun x hx => ?_, by simp [h.few]; omega, fun k hk => ?_, fun i hi' => ?_⟩⟩
  · show dk.now.set (a + n) _ = applyAll dk.sure (dk.l ++ [(a + n, _)])
    rw [applyAll_snoc, ← h.flow]
  · rcases List.mem_or_eq_of_mem_set hx with hx | hx
    · exact h.rows x hx
    · rw [hx]; exact hl
  · show sec (dk.now.set (a + n) _) (a + k) = _
    rw [sec_set hi]
    by_cases hkn : k = n
    · subst hkn; rw [if_pos rfl]
    · rw [if_neg (by omega)]; exact h.inn k (by omega)
  · show sec (dk.now.set (a + n) _) i = _
    rw [sec_set hi, if_neg (by omega)]
    exact h.out i (by omega)
theorem sec_flat {L : List (List UInt8)} {a n : Nat} {t : List UInt8} (h : a + n ≤ L.length) (ht : t.length = 32 * n) (hs : ∀ k, k < n → sec L (a + k) = (t.drop (32 * k)).take 32) : ((L.drop a).take n).flatten = t := by
  have e : ∀ m, m ≤ n → ((L.drop a).take m).flatten = t.take (32 * m) := by
    intro m
    induction m with
    | zero => intro _; simp
    | succ m ih =>
      intro hm
      have hg : m < (L.drop a).length := by rw [List.length_drop]; omega
      rw [take_snoc hg, List.flatten_append, ih (by omega), List.getElem_drop]
      have : L[a + m]'(by omega) = sec L (a + m) := by unfold sec; simp [List.getD, show a + m < L.length by omega]
      rw [List.flatten_cons, List.flatten_nil, List.append_nil, this, hs m (by omega), show 32 * (m + 1) = 32 * m + 32 by omega, List.take_add]
  rw [e n (Nat.le_refl _), List.take_of_length_le (by omega)]
theorem flush_flow {d : DK} (hc : Calm d) (hf : Flow d) : d.flush = ({ d with sure := d.now, l := [] }, 0) := by
  rw [flush_calm hc.off hc.fuse]
  unfold Flow at hf
  rw [← hf]
theorem scan_noughts {t : Int} (n : Nat) : scan t (List.replicate n 0) = [] := by
  unfold scan
  cases n with
  | zero => rfl
  | succ n =>
    have hl : (List.replicate (n + 1) (0 : UInt8)).length = n + 1 := by simp
    rw [hl]
    unfold scanL
    rw [if_neg]
    intro h
    obtain ⟨_, h2, _⟩ := (next_frame t _).1 h
    have : lenAt (List.replicate (n + 1) 0) = 0 := by
      have hz : ∀ i, (List.replicate (n + 1) (0 : UInt8)).getD i 0 = 0 := by
        intro i
        simp only [List.getD_eq_getElem?_getD, List.getElem?_replicate]
        split <;> rfl
      unfold lenAt
      rw [hz, hz]; rfl
    omega
structure Laid (d d' : DK) (t : Nat) (rs : List (List UInt8)) : Prop where
  calm : Calm d'
  sure : d'.sure = d'.now
  log : d'.l = []
  len : d'.now.length = d.now.length
  rows : ∀ x ∈ d'.now, x.length = 32
  area : allOf d' (areaL d.now.length t) ((d.now.length - 2) / 2) = fr t rs ++ List.replicate (32 * ((d.now.length - 2) / 2) - usedOf rs) 0
  head : sec d'.now (t % 2) = headK t
  out : ∀ i, i ≠ t % 2 → (i < areaL d.now.length t ∨ areaL d.now.length t + (d.now.length - 2) / 2 ≤ i) → sec d'.now i = sec d.now i
theorem Laid.flow {d d' : DK} {t : Nat} {rs : List (List UInt8)} (h : Laid d d' t rs) : Flow d' := by unfold Flow; rw [h.log, h.sure]; rfl
theorem areaL_le {n t : Nat} (h : 4 ≤ n) : 2 ≤ areaL n t ∧ areaL n t + (n - 2) / 2 ≤ n := by
  unfold areaL
  rcases (show t % 2 = 0 ∨ t % 2 = 1 by omega) with h | h <;> rw [h] <;> omega
theorem laid_of {d d2 : DK} {t : Nat} {rs : List (List UInt8)} (hn : 4 ≤ d.now.length) (hu : usedOf rs ≤ 32 * ((d.now.length - 2) / 2)) (h : Wk d d2 (areaL d.now.length t) ((d.now.length - 2) / 2) (fr t rs ++ List.replicate (32 * ((d.now.length - 2) / 2) - usedOf rs) 0)) :
    d2.flush.2 = 0 ∧ (d2.flush.1.write ((t % 2 : Nat) : Int) (headK t)).2 = 0 ∧ (d2.flush.1.write ((t % 2 : Nat) : Int) (headK t)).1.flush.2 = 0 ∧ Laid d (d2.flush.1.write ((t % 2 : Nat) : Int) (headK t)).1.flush.1 t rs := by
  obtain ⟨a1, a2⟩ := areaL_le (t := t) hn
  rw [flush_flow h.calm h.flow]
  have hi : t % 2 < d2.now.length := by rw [h.len]; omega
  have hw := write_calm (d := { d2 with sure := d2.now, l := [] }) h.calm.off h.calm.fuse hi (headK_len t)
  rw [hw]
  dsimp only
  rw [flush_flow (d := { sure := d2.now, now := d2.now.set (t % 2) (headK t), l := [] ++ [(t % 2, headK t)], fuse := d2.fuse, off := d2.off }) ⟨h.calm.off, h.calm.fuse⟩ rfl]
  refine ⟨rfl, rfl, rfl, ⟨⟨h.calm.off, h.calm.fuse⟩, rfl, rfl, by simp [h.len], fun x hx => ?_, ?_, ?_, fun i h1 h2 => ?_⟩⟩
  · rcases List.mem_or_eq_of_mem_set hx with hx | hx
    · exact h.rows x hx
    · rw [hx]; exact headK_len t
  · refine sec_flat (by simp only [List.length_set]; rw [h.len]; exact a2) (by rw [List.length_append, fr_len, List.length_replicate]; omega) fun k hk => ?_
    show sec (d2.now.set (t % 2) _) _ = _
    rw [sec_set hi, if_neg (by omega)]
    exact h.inn k hk
  · show sec (d2.now.set (t % 2) _) _ = _
    rw [sec_set hi, if_pos rfl]
  · show sec (d2.now.set (t % 2) _) _ = _
    rw [sec_set hi, if_neg h1]
    exact h.out i h2
theorem turnOk_of {t : Nat} (h1 : 1 ≤ t) (h2 : t ≤ 2147483647) : turnOk (t : Int) = true := by unfold turnOk; exact decide_eq_true (by omega)
theorem Laid.scan {d d' : DK} {t : Nat} {rs : List (List UInt8)} (h : Laid d d' t rs) (h1 : 1 ≤ t) (h2 : t ≤ 2147483647) (hr : Recs rs) :
    scan t (allOf d' (areaL d.now.length t) ((d.now.length - 2) / 2)) = rs ∧ (allOf d' (areaL d.now.length t) ((d.now.length - 2) / 2)).take (usedOf rs) = fr t rs := by
  rw [h.area]
  refine ⟨?_, ?_⟩
  · rw [scan_fr (turnOk_of h1 h2) rs _ hr, scan_noughts, List.append_nil]
  · rw [← fr_len (t : Int) rs, List.take_left']
    rfl
end Go.Proofs

set_option maxRecDepth 100000
set_option linter.unusedVariables false
set_option linter.unusedSimpArgs false
namespace Go.Proofs
open Go Go.Q
open Tryz (prog)
structure KC (w : World) (kb bd : Nat) (l : LV) (t : Nat) (lp : Value) (X : List Nat) : Prop where
  ex : ∃ a b c, w.heap[kb]? = some (.cells #[.pointer (some ⟨bd, 0, none⟩), a, b, c, .int .i64 l.ops, .int .i64 (t : Nat), lp] 58) ∧ LX (kb :: X) w (.agg #[a, b, c, .int .i64 l.ops]) l
section
variable {w w' : World} {kb bd : Nat} {l : LV} {t : Nat} {lp : Value} {X S : List Nat} {R : KW} {d : DK}
theorem KC.keep (h : KC w kb bd l t lp X) (hk : Kp S w w') (hS : ∀ y ∈ S, y ∈ X) (hkb : kb ∉ S) : KC w' kb bd l t lp X := by
  obtain ⟨a, b, c, h1, h2⟩ := h.ex
  exact ⟨a, b, c, hk.get h1 hkb, h2.keepS hk fun y hy => by simp [hS y hy]⟩
theorem KC.keep0 (h : KC w kb bd l t lp X) (hk : Kp [] w w') : KC w' kb bd l t lp X := h.keep hk (by simp) (by simp)
theorem KC.ldd (h : KC w kb bd l t lp X) {K : Value → Prop} : ld1 (.pointer (some ⟨kb, 0 + 0, none⟩)) w K = K (.pointer (some ⟨bd, 0, none⟩)) := by
  obtain ⟨a, b, c, h1, h2⟩ := h.ex
  exact ldF h1 rfl
theorem KC.ldt (h : KC w kb bd l t lp X) {K : Value → Prop} : ld1 (.pointer (some ⟨kb, 0 + 5, none⟩)) w K = K (.int .i64 (t : Nat)) := by
  obtain ⟨a, b, c, h1, h2⟩ := h.ex
  exact ldF h1 rfl
theorem KC.ldlog (h : KC w kb bd l t lp X) {K : Value → Prop} : ld1 (.pointer (some ⟨kb, 0 + 6, none⟩)) w K = K lp := by
  obtain ⟨a, b, c, h1, h2⟩ := h.ex
  exact ldF h1 rfl
theorem KC.ldl (h : KC w kb bd l t lp X) : ∃ v, (∀ K : Value → Prop, ldn 4 (.pointer (some ⟨kb, 0 + 1, none⟩)) w K = K v) ∧ LX (kb :: X) w v l := by
  obtain ⟨a, b, c, h1, h2⟩ := h.ex
  exact ⟨_, fun K => ldP h1 (p := #[a, b, c, .int .i64 l.ops]) rfl (by simp), h2⟩
theorem KC.lt (h : KC w kb bd l t lp X) : kb < w.heap.size := by
  obtain ⟨a, b, c, h1, h2⟩ := h.ex
  exact lt_of_blk h1
theorem usedOf_append (a b : List (List UInt8)) : usedOf (a ++ b) = usedOf a + usedOf b := by simp [usedOf]
theorem usedOf_take (l : List (List UInt8)) (k : Nat) : usedOf (l.take k) ≤ usedOf l := by
  have : usedOf l = usedOf (l.take k) + usedOf (l.drop k) := by rw [← usedOf_append, List.take_append_drop]
  omega
theorem rd_str {rv : Value} {rs : List (List UInt8)} (h : Rd w rv 1 (rs.map strV)) {i : Nat} (hi : i < rs.length) : ∃ p, (∀ kd K, ia 1 rv (.int kd i) K = K p) ∧ ∀ K : Value → Prop, ld1 p w K = K (.string (str rs[i])) :=
  h.one (i := i) (by simpa using hi) (x := .string (str rs[i])) (by simp [strV])
theorem fits_k (hc : KC w kb bd l t lp X) (hd : DiskAt w bd d S) (h2 : 4 ≤ d.now.length) {rv : Value} {rs : List (List UInt8)} (hr : Rd w rv 1 (rs.map strV)) (hrec : Recs rs) (hR : ∀ w', Kp [] w w' → R (.bool (decide (usedOf rs ≤ 32 * ((d.now.length - 2) / 2)))) w') :
    callG prog 42 #[.pointer (some ⟨kb, 0, none⟩), rv] w R := by
  refine Fn34_call ?_
  unfold Fn34 Fn34_s4
  have hm := hd.ok.most
  rw [nk_p, fa_p, hc.ldd, show (Value.int .i64 0) = .int .i64 ((0 : Nat) : Int) from rfl]
  refine area_k hd (by omega) 0 ?_
  generalize hH : (d.now.length - 2) / 2 = H at *
  have hA : areaL d.now.length 0 = 2 := by unfold areaL; simp
  rw [hA, ex0, ex1]
  have e1 : IntKind.i64.wrap (((2 + H : Nat) : Int) - ((2 : Nat) : Int)) = ((H : Nat) : Int) := by rw [w64 (by omega) (by omega)]; omega
  have e2 : IntKind.i64.wrap (32 * ((H : Nat) : Int)) = ((32 * H : Nat) : Int) := by rw [w64 (by omega) (by omega)]; simp
  simp only [bq_sub, e1, bq_mul, e2]
  unfold Fn34_s3
  rw [hr.lenL, List.length_map]
  unfold Fn34_L2
  refine loop_inv (fun m xs w' => ∃ k, k ≤ rs.length ∧ m = rs.length - k ∧ usedOf (rs.take k) ≤ 32 * H ∧ xs = [.int .i64 ((32 * H - usedOf (rs.take k) : Nat) : Int), rv, .int .i64 (rs.length : Nat), .int .i64 (k : Nat)] ∧ Kp [] w w') ?_ (m := rs.length) ⟨0, by omega, rfl, by simp [usedOf], by simp [usedOf], Kp.refl _ _⟩
  rintro m N xs w1 ⟨k, hk, rfl, hu, rfl, k1⟩ hN
  unfold Fn34_L2F Fn34_b1
  dsimp only
  simp only [bq_lss, bV_b, decide_eq_true_eq, decide_eq_false_iff_not]
  refine ⟨fun hlt => ?_, fun hge => ?_⟩
  · have hlt : k < rs.length := by omega
    have hrk := hrec _ (List.getElem_mem hlt)
    obtain ⟨pe, i1, i2⟩ := rd_str (hr.keep k1) hlt
    rw [i1, i2, show (Value.int .i64 1) = .int .i64 (((1 : Nat) : Int)) from rfl]
    refine Frame_spec _ _ (by omega) fun w2 k2 => ?_
    rw [ex0, ex1, frame_rec (t := ((1 : Nat) : Int)) (by decide) hrk]
    have hfl := frameB_len ((1 : Nat) : Int) rs[k]
    have htk : usedOf (rs.take (k + 1)) = usedOf (rs.take k) + (10 + rs[k].length) := by rw [take_snoc hlt, usedOf_snoc]
    have hle := usedOf_take rs (k + 1)
    have e3 : IntKind.i64.wrap (((32 * H - usedOf (rs.take k) : Nat) : Int) - ((10 + rs[k].length : Nat) : Int)) = ((32 * H : Nat) : Int) - (usedOf (rs.take (k + 1)) : Nat) := by rw [w64 (by omega) (by omega)]; omega
    have e4 : IntKind.i64.wrap ((k : Int) + ((1 : Nat) : Int)) = ((k + 1 : Nat) : Int) := by rw [w64 (by have := usedOf_len (rs.take k); rw [List.length_take] at this; omega) (by have := usedOf_len (rs.take k); rw [List.length_take] at this; omega)]; simp
    simp only [lenS_s, str_size, hfl, bq_sub, e3, bq_lss, bV_b, decide_eq_true_eq, decide_eq_false_iff_not]
    refine ⟨fun hneg => ?_, fun hpos => ?_⟩
    · rw [decide_eq_false (by omega)] at hR
      exact hR w2 (k1.trans' k2)
    · simp only [bq_add, e4]
      refine hN (rs.length - (k + 1)) _ w2 (by omega) ⟨k + 1, by omega, rfl, by omega, ?_, k1.trans' k2⟩
      congr 2
      omega
  · have : k = rs.length := by omega
    subst this
    rw [List.take_length] at hu
    unfold Fn34_s0
    rw [decide_eq_true hu] at hR
    exact hR w1 k1
end
end Go.Proofs

set_option maxRecDepth 100000
set_option linter.unusedVariables false
set_option linter.unusedSimpArgs false
namespace Go.Proofs
open Go Go.Q
open Tryz (prog)
theorem LX.grow {X Y : List Nat} {w : World} {v : Value} {l : LV} (h : LX X w v l) (hY : ∀ y ∈ Y, y ∈ X ∨ w.heap.size ≤ y) : LX Y w v l := by
  obtain ⟨T, h1, h2⟩ := h
  refine ⟨T, h1, fun q hq hm => ?_⟩
  rcases hY q hm with hh | hh
  · exact h2 q hq hh
  · have := h1.lt q hq; omega
section
variable {w w' : World} {kb bd ab : Nat} {l : LV} {t : Nat} {lp : Value} {X Y S : List Nat} {R : KW} {d : DK}
theorem KC.grow (h : KC w kb bd l t lp X) (hY : ∀ y ∈ Y, y ∈ X ∨ w.heap.size ≤ y) : KC w kb bd l t lp Y := by
  obtain ⟨a, b, c, h1, h2⟩ := h.ex
  refine ⟨a, b, c, h1, LX.grow h2 fun y hy => ?_⟩
  rcases List.mem_cons.1 hy with rfl | hy
  · exact .inl (by simp)
  · exact (hY y hy).imp (fun hh => by simp [hh]) id
theorem KC.st (h : KC w kb bd l t lp X) (hlp : Q.one lp = true) {t' : Nat} {K : World → Prop} (hK : ∀ w', KC w' kb bd l t' (.pointer (some ⟨ab, 0, none⟩)) X → Kp [kb] w w' → K w') :
    nk (.pointer (some ⟨kb, 0, none⟩)) fun p => fa 5 p fun p => st1 p (.int .i64 (t' : Nat)) w fun w => nk (.pointer (some ⟨kb, 0, none⟩)) fun p => fa 6 p fun p => st1 p (.pointer (some ⟨ab, 0, none⟩)) w K := by
  obtain ⟨a, b, c, h1, h2⟩ := h.ex
  rw [nk_p, fa_p, stF h1 (by simp) rfl]
  generalize hw1 : setBlk w kb _ = w1
  have h11 : w1.heap[kb]? = some (.cells #[.pointer (some ⟨bd, 0, none⟩), a, b, c, .int .i64 l.ops, .int .i64 (t' : Nat), lp] 58) := by rw [← hw1]; exact heap_self (live_of h1)
  have k1 : Kp [kb] w w1 := by rw [← hw1]; exact (Kp.refl _ _).setBlk (.inl (by simp)) _
  rw [nk_p, fa_p, stF h11 (by simp) rfl]
  generalize hw2 : setBlk w1 kb _ = w2
  have h12 : w2.heap[kb]? = some (.cells #[.pointer (some ⟨bd, 0, none⟩), a, b, c, .int .i64 l.ops, .int .i64 (t' : Nat), .pointer (some ⟨ab, 0, none⟩)] 58) := by rw [← hw2]; exact heap_self (live_of h11)
  have k2 : Kp [kb] w1 w2 := by rw [← hw2]; exact (Kp.refl _ _).setBlk (.inl (by simp)) _
  have k12 := k1.trans' k2
  exact hK w2 ⟨a, b, c, h12, h2.keepS k12 (by simp)⟩ k12
end
structure KS (w0 w : World) (kb bd ab : Nat) (l : LV) (t : Nat) (g : LG) (d : DK) (B : List Nat) : Prop where
  ol : OL w0 w ab bd g d B
  kb0 : w0.heap.size ≤ kb
  kbB : kb ∉ B
  kc : KC w kb bd l t (.pointer (some ⟨ab, 0, none⟩)) B
def logOf (n t : Nat) (rs : List (List UInt8)) : LG := ⟨((areaL n t : Nat) : Int), ((areaL n t + (n - 2) / 2 : Nat) : Int), ((t : Nat) : Int), rs, fr ((t : Nat) : Int) rs⟩
section
variable {w0 w w' : World} {kb bd : Nat} {l : LV} {t : Nat} {lp : Value} {S : List Nat} {R : KW} {d : DK}
theorem lay_k (o : Own w0 w bd d S) (hkb0 : w0.heap.size ≤ kb) (hkbS : kb ∉ S) (hc : KC w kb bd l t lp S) (hlp : Q.one lp = true) (hm : May l) (hw : LWf l) (hcalm : Calm d) (hflow : Flow d) (hdl : d.l.length < 2 ^ 30) (h4 : 4 ≤ d.now.length) (hn : d.now.length ≤ 120) (ht : t < 2 ^ 30)
    (hrec : Recs (recL l)) (hfit : usedOf (recL l) ≤ 32 * ((d.now.length - 2) / 2))
    (hR : ∀ w' ab B d', KS w0 w' kb bd ab l (t + 1) (logOf d.now.length (t + 1) (recL l)) d' B → Laid d d' (t + 1) (recL l) → Kp (kb :: S) w w' → (∀ y ∈ B, y ∈ S ∨ w.heap.size ≤ y) → R (.int .i64 0) w') :
    callG prog 39 #[.pointer (some ⟨kb, 0, none⟩)] w R := by
  refine Fn36_call ?_
  unfold Fn36 Fn36_s9
  obtain ⟨v, hv1, hv2⟩ := hc.ldl
  have hrows := o.at_.ok.sz2
  have hlS := o.at_.live
  have hSn := o.new
  obtain ⟨a1, a2⟩ := areaL_le (t := t + 1) h4
  rw [nk_p, fa_p, hv1]
  refine Records_k hm hw hv2.at fun w1 v1 hf1 => ?_
  have k1 := hf1.kp
  have hc1 := hc.keep0 k1
  have o1 := o.keep k1
  rw [ex0, ex1]
  simp only [bq_neq, bV_b, decide_eq_true_eq]
  refine ⟨fun hh => absurd rfl hh, fun _ => ?_⟩
  rw [nk_p, fa_p, hc1.ldt]
  simp only [bq_geq, bV_b, decide_eq_true_eq, decide_eq_false_iff_not]
  refine ⟨fun hh => by omega, fun _ => ?_⟩
  refine fits_k hc1 o1.at_ h4 hf1.rd hrec fun w2 k2 => ?_
  rw [decide_eq_true hfit]
  simp only [un_not, bV_b]
  refine ⟨fun hh => by simp at hh, fun _ => ?_⟩
  have hc2 := hc1.keep0 k2
  have e1 : IntKind.i64.wrap ((t : Int) + 1) = ((t + 1 : Nat) : Int) := by rw [w64 (by omega) (by omega)]; simp
  unfold Fn36_s8
  rw [nk_p, fa_p, hc2.ldt]
  simp only [bq_add, e1, newG_k]
  rw [zcB]
  generalize hw3 : w2.alloc (.cells #[.pointer none, .slice none 0 0] 110) = w3
  have hb3 : Bd w2 w3 w2.heap.size [] := by rw [← hw3]; exact bd_new
  generalize hx6 : w2.heap.size = x6 at *
  unfold Fn36_s7
  have hrv2 := hf1.rd.keep k2
  rw [hrv2.lenL, List.length_map]
  unfold Fn36_L6
  refine loop_inv (fun m xs w' => ∃ k, k ≤ (recL l).length ∧ m = (recL l).length - k ∧ xs = [.pointer (some ⟨kb, 0, none⟩), .int .i64 ((t + 1 : Nat) : Int), .pointer (some ⟨x6, 0, none⟩), v1, .int .i64 ((recL l).length : Nat), .int .i64 (k : Nat)] ∧ Bd w2 w' x6 (fr ((t + 1 : Nat) : Int) ((recL l).take k))) ?_ (m := (recL l).length) ⟨0, by omega, rfl, rfl, by simpa [fr] using hb3⟩
  rintro m N xs w4 ⟨k, hk, rfl, rfl, hb4⟩ hN
  unfold Fn36_L6F Fn36_b5
  dsimp only
  have hlu := usedOf_len (recL l)
  simp only [bq_lss, bV_b, decide_eq_true_eq, decide_eq_false_iff_not]
  refine ⟨fun hlt => ?_, fun hge => ?_⟩
  · have hlt : k < (recL l).length := by omega
    have hrk := hrec _ (List.getElem_mem hlt)
    obtain ⟨pe, i1, i2⟩ := rd_str (hrv2.keep hb4.kp) hlt
    rw [i1, i2]
    refine Frame_spec _ _ (by omega) fun w5 k5 => ?_
    rw [ex0, ex1, frame_rec (turnOk_of (by omega) (by omega)) hrk]
    have htk : fr ((t + 1 : Nat) : Int) ((recL l).take (k + 1)) = fr ((t + 1 : Nat) : Int) ((recL l).take k) ++ frameB ((t + 1 : Nat) : Int) (recL l)[k] := by rw [take_snoc hlt, fr_append]; simp [fr]
    have hle := usedOf_take (recL l) k
    refine bd_string (hb4.keep k5) _ (by rw [fr_len, frameB_len]; omega) fun w6 hb6 => ?_
    have e2 : IntKind.i64.wrap ((k : Int) + 1) = ((k + 1 : Nat) : Int) := by rw [w64 (by omega) (by omega)]; simp
    simp only [bq_add, e2]
    refine hN ((recL l).length - (k + 1)) _ w6 (by omega) ⟨k + 1, by omega, rfl, rfl, ?_⟩
    rw [htk]; exact hb6
  have : k = (recL l).length := by omega
  subst this
  rw [List.take_length] at hb4
  unfold Fn36_s4
  have k4 := hb4.kp
  have o4 := (o1.keep k2).keep k4
  rw [nk_p, fa_p, (hc2.keep0 k4).ldd]
  refine area_k o4.at_ (by omega) (t + 1) ?_
  generalize hH : (d.now.length - 2) / 2 = H at *
  generalize hA : areaL d.now.length (t + 1) = A at *
  rw [ex0, ex1]
  refine bd_text hb4 (by rw [fr_len]; omega) fun w5 k5 => ?_
  have e3 : IntKind.i64.wrap (((A + H : Nat) : Int) - (A : Nat)) = ((H : Nat) : Int) := by rw [w64 (by omega) (by omega)]; omega
  have e4 : IntKind.i64.wrap (32 * ((H : Nat) : Int)) = ((32 * H : Nat) : Int) := by rw [w64 (by omega) (by omega)]; simp
  simp only [bq_sub, e3, bq_mul, e4]
  refine filled_k (by rw [fr_len]; exact hfit) (by omega) fun w6 k6 => ?_
  rw [fr_len]
  have hT : (fr ((t + 1 : Nat) : Int) (recL l) ++ List.replicate (32 * H - usedOf (recL l)) 0).length = 32 * H := by rw [List.length_append, fr_len, List.length_replicate]; omega
  generalize hTT : fr ((t + 1 : Nat) : Int) (recL l) ++ List.replicate (32 * H - usedOf (recL l)) 0 = T at *
  have k06 : Kp [] w w6 := (((k1.trans' k2).trans' k5).trans' k6)
  have o6 := o.keep k06
  have hc6 := hc.keep0 k06
  have z6 := k06.size
  unfold Fn36_s3 Fn36_L2
  refine loop_inv (fun m xs w' => ∃ (k : Nat) (dk : DK) (Sk : List Nat), k ≤ H ∧ m = H - k ∧ xs = [.pointer (some ⟨kb, 0, none⟩), .int .i64 ((t + 1 : Nat) : Int), .int .i64 (A : Nat), .int .i64 ((A + H : Nat) : Int), .string (str T), .int .i64 ((A + k : Nat) : Int)] ∧ Wk d dk A k T ∧ DiskAt w' bd dk Sk ∧ Kp S w6 w' ∧ ∀ y ∈ Sk, y ∈ S ∨ w6.heap.size ≤ y) ?_ (m := H) ⟨0, d, S, by omega, rfl, rfl, Wk.zero hcalm hflow hrows A T, o6.at_, Kp.refl _ _, fun y hy => .inl hy⟩
  rintro m N xs w7 ⟨k, dk, Sk, hk, rfl, rfl, hwk, hd7, k7, hSk⟩ hN
  unfold Fn36_L2F Fn36_b1
  dsimp only
  have hc7 := hc6.keep k7 (fun y hy => hy) hkbS
  simp only [bq_lss, bV_b, decide_eq_true_eq, decide_eq_false_iff_not]
  refine ⟨fun hlt => ?_, fun hge => ?_⟩
  · have hlt : k < H := by omega
    have hc7d := hc7.keep0 ((Kp.refl [] w7).drew)
    have hd7d := hd7.keep ((Kp.refl [] w7).drew) (by simp)
    rw [nk_p, fa_p, hc7d.ldd]
    have e5 : IntKind.i64.wrap (((A + k : Nat) : Int) - (A : Nat)) = ((k : Nat) : Int) := by rw [w64 (by omega) (by omega)]; omega
    have e6 : IntKind.i64.wrap (32 * ((k : Nat) : Int)) = ((32 * k : Nat) : Int) := by rw [w64 (by omega) (by omega)]; simp
    have e7 : IntKind.i64.wrap (((32 * k : Nat) : Int) + 32) = ((32 * k + 32 : Nat) : Int) := by rw [w64 (by omega) (by omega)]; simp
    have e8 : ∀ K : Value → Prop, slS (.string (str T)) (some (.int .i64 ((32 * k : Nat) : Int))) (some (.int .i64 ((32 * k + 32 : Nat) : Int))) K = K (.string (str ((T.drop (32 * k)).take 32))) := fun K => by
      have hb2 : 32 * k + 32 ≤ T.length := by omega
      have hb3 : ((32 * k + 32 : Nat) : Int) ≤ (T.length : Int) := by omega
      have hb4 : ((32 * k : Nat) : Int) ≤ ((32 * k + 32 : Nat) : Int) := by omega
      simp only [slS_p, bnd_some, str_size, Int.toNat_natCast]
      rw [str_extract, List.take_drop]
      exact propext ⟨fun h => h.2.2, fun h => ⟨⟨by omega, hb3⟩, ⟨by omega, hb4⟩, h⟩⟩
    simp only [bq_sub, e5, bq_mul, e6, bq_add, e7]
    rw [e8]
    have hst := hwk.step (by omega) (by omega)
    have hfk := hwk.few
    refine Write_spec hd7d (by omega) _ _ fun w8 S8 hd8 k8 hS8 => ?_
    rw [hst.1]
    simp only [bq_neq, bV_b, decide_eq_true_eq]
    refine ⟨fun hh => absurd rfl hh, fun _ => ?_⟩
    have e9 : IntKind.i64.wrap (((A + k : Nat) : Int) + 1) = ((A + (k + 1) : Nat) : Int) := by rw [w64 (by omega) (by omega)]; omega
    simp only [bq_add, e9]
    have z7 := k7.size
    have z7d : w7.drew.heap.size = w7.heap.size := rfl
    refine hN (H - (k + 1)) _ w8 (by omega) ⟨k + 1, _, S8, by omega, rfl, rfl, hst.2, hd8, (k7.drew).trans k8 fun y hy hlt2 => ?_, fun y hy => ?_⟩
    · rcases hSk y hy with hh | hh
      · exact hh
      · omega
    · rcases hS8 y hy with hh | hh
      · exact hSk y hh
      · right; omega
  have : k = H := by omega
  subst this
  have hld := laid_of (t := t + 1) (rs := recL l) h4 (by rw [hH]; exact hfit) (d2 := dk) (by rw [hA, hH, hTT]; exact hwk)
  obtain ⟨c1, c2, c3, c4⟩ := hld
  have hfk := hwk.few
  have z7 := k7.size
  unfold Fn36_s0
  rw [nk_p, fa_p, hc7.ldd]
  refine Flush_spec hd7 (by omega) fun w8 hd8 k8 => ?_
  rw [c1]
  simp only [bq_neq, bV_b, decide_eq_true_eq]
  refine ⟨fun hh => absurd rfl hh, fun _ => ?_⟩
  have hkbSk : kb ∉ Sk := fun hm => by
    have := hc6.lt
    rcases hSk kb hm with hh | hh
    · exact hkbS hh
    · omega
  -- from here on with the blocks Sk
  have hc7k : KC w7 kb bd l t lp Sk := by
    have hcg : KC w6 kb bd l t lp (S ++ Sk) := hc6.grow fun y hy => by
      rcases List.mem_append.1 hy with hh | hh
      · exact .inl hh
      · exact hSk y hh
    exact (hcg.keep k7 (fun y hy => by simp [hy]) hkbS).grow fun y hy => .inl (by simp [hy])
  have hc8 := hc7k.keep k8 (fun y hy => hy) hkbSk
  have hc8d := hc8.keep0 ((Kp.refl [] w8).drew)
  have e10 : (((t + 1 : Nat) : Int) % 2) = (((t + 1) % 2 : Nat) : Int) := by simp
  rw [nk_p, fa_p, hc8d.ldd, rem_of (by omega) (by omega), e10]
  refine head_k _ fun w9 k9 => ?_
  have k89 : Kp [] w8 w9 := ((Kp.refl [] w8).drew).trans' k9
  have hc9 := hc8.keep0 k89
  refine ⟨by show (bq _ _ _ _ _ _).run _ _ = _; rw [run_rem (by omega) (by omega), e10], by rw [hc9.ldd], ?_⟩
  refine Write_spec (hd8.keep k89 (by simp)) (by rw [flush_flow hwk.calm hwk.flow]; simp) _ _ fun w10 S10 hd10 k10 hS10 => ?_
  rw [c2]
  simp only [bq_neq, bV_b, decide_eq_true_eq]
  refine ⟨fun hh => absurd rfl hh, fun _ => ?_⟩
  have hc10 : KC w10 kb bd l t lp (Sk ++ S10) := (hc9.grow (Y := Sk ++ S10) fun y hy => by
    rcases List.mem_append.1 hy with hh | hh
    · exact .inl hh
    · exact hS10 y hh).keep k10 (fun y hy => by simp [hy]) hkbSk
  have hkb10 : kb ∉ S10 := fun hm => by
    have := hc9.lt
    rcases hS10 kb hm with hh | hh
    · exact hkbSk hh
    · omega
  rw [nk_p, fa_p, hc10.ldd]
  have hl10 : (dk.flush.1.write (((t + 1) % 2 : Nat) : Int) (headK ((t + 1 : Nat) : Int))).1.l.length < 2 ^ 40 := by
    have h1 := (write_l dk.flush.1 (((t + 1) % 2 : Nat) : Int) (headK ((t + 1 : Nat) : Int)))
    have h2 : dk.flush.1.l.length = 0 := by rw [flush_flow hwk.calm hwk.flow]; rfl
    omega
  refine Flush_spec hd10 hl10 fun w11 hd11 k11 => ?_
  rw [c3]
  simp only [bq_neq, bV_b, decide_eq_true_eq]
  refine ⟨fun hh => absurd rfl hh, fun _ => ?_⟩
  generalize (dk.flush.1.write (((t + 1) % 2 : Nat) : Int) (headK ((t + 1 : Nat) : Int))).1.flush.1 = d' at *
  have hc11 := (hc10.grow (Y := S10) fun y hy => .inl (by simp [hy])).keep k11 (fun y hy => hy) hkb10
  have z8 := k8.size
  have z9 := k89.size
  have z10 := k10.size
  have z11 := k11.size
  have hS10w : ∀ y ∈ S10, y ∈ S ∨ w6.heap.size ≤ y := fun y hy => by
    rcases hS10 y hy with hh | hh
    · exact hSk y hh
    · right; omega
  have kw11 : Kp S w w11 := by
    refine (((((k06.mono (by simp)).trans' k7).trans k8 ?_).trans (k89.mono (S' := S) (by simp)) ?_).trans k10 ?_).trans k11 ?_
    · intro y hy hlt; rcases hSk y hy with hh | hh
      · exact hh
      · omega
    · intro y hy _; exact hy
    · intro y hy hlt; rcases hSk y hy with hh | hh
      · exact hh
      · omega
    · intro y hy hlt; rcases hS10w y hy with hh | hh
      · exact hh
      · omega
  have hz0 := o.kp.size
  have o11 : Own w0 w11 bd d' S10 := ⟨hd11, o.kp.trans kw11 fun y hy hlt => by have := hSn y hy; omega, fun y hy => by
    rcases hS10w y hy with hh | hh
    · exact hSn y hh
    · omega⟩
  rw [nk_p, fa_p, hc11.ldd]
  have hlen' : d'.now.length = d.now.length := c4.len
  obtain ⟨sc1, sc2⟩ := c4.scan (by omega) (by omega) hrec
  rw [hA, hH] at sc1 sc2
  refine ol_open (lo := A) (hi := A + k) o11 c4.calm.off (by omega) (by rw [hlen']; exact a2) (turnOk_of (t := t + 1) (by omega) (by omega)) fun w12 ab B hol k12 hB hSB => ?_
  rw [Nat.add_sub_cancel_left, sc1, sc2] at hol
  rw [ex0, ex1]
  simp only [bq_neq, bV_b, decide_eq_true_eq]
  refine ⟨fun hh => absurd rfl hh, fun _ => ?_⟩
  have hc12 : KC w12 kb bd l t lp B := (hc11.grow hB).keep0 k12
  have hkbB : kb ∉ B := fun hm => by
    have := hc11.lt
    rcases hB kb hm with hh | hh
    · exact hkb10 hh
    · omega
  refine hc12.st hlp fun w13 hc13 k13 => ?_
  have hol13 : OL w0 w13 ab bd (logOf d.now.length (t + 1) (recL l)) d' B := by
    have hg : logOf d.now.length (t + 1) (recL l) = ⟨((A : Nat) : Int), ((A + k : Nat) : Int), ((t + 1 : Nat) : Int), recL l, fr ((t + 1 : Nat) : Int) (recL l)⟩ := by unfold logOf; rw [hA, hH]
    rw [hg]
    refine OL.keep hol k13 (fun y hy hm => by simp at hm; subst hm; exact hkbB hy) ?_
    exact hol.kp.trans k13 fun y hy hlt => by simp at hy; omega
  refine hR w13 ab B d' ⟨hol13, hkb0, hkbB, hc13⟩ c4 ?_ fun y hy => ?_
  · refine ((kw11.mono fun y hy _ => by simp [hy]).trans (k12.mono (S' := kb :: S) (by simp)) fun y hy _ => hy).trans (k13.mono (S' := kb :: S) (by intro y hy _; simp at hy; simp [hy])) fun y hy _ => hy
  · rcases hB y hy with hh | hh
    · rcases hS10w y hh with h1 | h1
      · exact .inl h1
      · right; omega
    · right; omega
end
end Go.Proofs

set_option linter.unusedVariables false
set_option linter.unusedSimpArgs false
namespace Go.Q
structure V3.Rg (v : V3) : Prop where
  k0 : -9223372036854775808 ≤ v.k
  k1 : v.k < 9223372036854775808
  n0 : -9223372036854775808 ≤ v.n
  n1 : v.n < 9223372036854775808
theorem V3.Rg.wf {v : V3} (h : v.Rg) (hok : v.ok = true) : v.Wf := by
  refine ⟨h.k0, h.k1, h.n0, h.n1, ?_⟩
  unfold V3.ok at hok
  split at hok
  · simp at hok; rw [hok.2]; decide
  · split at hok
    · simp at hok; rw [hok]; decide
    · split at hok
      · simp at hok; omega
      · split at hok
        · simp at hok; rw [hok.2]; decide
        · cases hok
def cel (v : Value) : List Value := [v]
def Ix (w : World) (o : Value) (bs : List (List E)) : Prop :=
  ∃ vs : List Value, Rd w o 1 (vs.map cel) ∧ vs.length = bs.length ∧ ∀ k (h : k < bs.length) v, vs[k]? = some v → Rd w v 4 (bs[k].map eC)
section
variable {w0 w w' : World} {o : Value} {bs : List (List E)}
theorem Ix.lenL (h : Ix w o bs) {K : Value → Prop} : lenL o K = K (.int .i64 bs.length) := by
  obtain ⟨vs, h1, h2, h3⟩ := h
  rw [h1.lenL, List.length_map, h2]
theorem Ix.one (h : Ix w o bs) : Q.one o = true := by
  obtain ⟨vs, h1, h2, h3⟩ := h
  obtain ⟨a, c, hv⟩ := h1.slice
  rw [hv]; rfl
theorem Rd.rowK {v : Value} {k : Nat} {rows : List (List Value)} (h : Rd w v k rows) {i : Nat} (hi : i < rows.length) : ∃ bl o, (∀ kd K, ia k v (.int kd i) K = K (.pointer (some ⟨bl, o, none⟩))) ∧ ∀ w', Kp [] w w' → (∀ K : Value → Prop, ldn k (.pointer (some ⟨bl, o, none⟩)) w' K = K (.agg rows[i].toArray)) ∧
    (∀ j x, j < k → rows[i][j]? = some x → ∀ K : Value → Prop, ld1 (.pointer (some ⟨bl, o + j, none⟩)) w' K = K x) ∧ ∀ j n part, j + n ≤ k → rows[i].toArray.extract j (j + n) = part → ∀ K : Value → Prop, ldn n (.pointer (some ⟨bl, o + j, none⟩)) w' K = K (.agg part) := by
  obtain ⟨bl, o, T, c, fr, h1, h2, h3, h4, h5⟩ := h.at hi
  refine ⟨bl, o, h2, fun w' hk => ⟨fun K => ldP (hk.get h1 (by simp)) h4 h3, fun j x hj hx K => ldF (hk.get h1 (by simp)) (by rw [h5 j hj]; exact hx), fun j n part hjn hp K => ldP (hk.get h1 (by simp)) ?_ (by omega)⟩⟩
  rw [← hp, ← h4]
  apply Array.toList_inj.1
  simp only [Array.toList_extract, List.extract_eq_take_drop, List.drop_take, List.take_take, List.drop_drop]
  congr 1
  omega
theorem eC_one (b : List E) : ((b.map eC).flatten).all Q.one = true := by
  rw [List.all_eq_true]
  intro x hx
  obtain ⟨r, hr, hxr⟩ := List.mem_flatten.1 hx
  obtain ⟨y, _, rfl⟩ := List.mem_map.1 hr
  simp only [eC, valV, List.cons_append, List.nil_append, List.mem_cons, List.not_mem_nil, or_false] at hxr
  rcases hxr with rfl | rfl | rfl | rfl <;> rfl
structure Gro (w0 w : World) (y : Nat) (o : Value) (bs : List (List E)) (So : List Nat) (B : Nat → List Nat) : Prop where
  ex : ∃ vs : List Value, RowsAt w o 1 (vs.map cel) So ∧ vs.length = bs.length ∧ ∀ k (h : k < bs.length) v, vs[k]? = some v → RowsAt w v 4 (bs[k].map eC) (B k)
  so : ∀ x ∈ So, w0.heap.size ≤ x ∧ x ≠ y
  b : ∀ k x, x ∈ B k → w0.heap.size ≤ x ∧ x < w.heap.size ∧ x ∉ So ∧ x ≠ y
  nd : ∀ j k x, j ≠ k → x ∈ B j → x ∉ B k
theorem Gro.push {e bytes : Nat} {z : List Value} {y : Nat} {So : List Nat} {B : Nat → List Nat} (h : Gro w0 w y o bs So B) (hy : y < w.heap.size) (hz : z.length = 4) (hb : bytes ≤ 64) {k : Nat} (hk : k < bs.length) : ∃ p v, (∀ K, ia 1 o (.int .i64 k) K = K p) ∧ (∀ w1, Kp [] w w1 → ∀ K : Value → Prop, ld1 p w1 K = K v) ∧
    ∀ w1, Kp [] w w1 → ∀ x a, Rd w1 x 4 [eC a] → bs[k].length < 2 ^ 30 → ∀ K : KW, (∀ v' w2 B', Kp (B k) w1 w2 → (∀ K2 : World → Prop, (∀ w3, Kp So w2 w3 → Gro w0 w3 y o (bs.set k (bs[k] ++ [a])) So B' → K2 w3) → st1 p v' w2 K2) → K v' w2) → app e 4 bytes z.toArray v x w1 K := by
  obtain ⟨⟨vs, h1, h2, h3⟩, h4, h5, h6⟩ := h
  have hkv : k < vs.length := by omega
  obtain ⟨bl, g1, g2, g3, g4⟩ := h1.updK (f := cel) hkv
  have g5 := h3 k hk vs[k] (by simp [hkv])
  refine ⟨_, vs[k], g2, fun w1 hk1 K => g3 w1 hk1 0 vs[k] rfl K, fun w1 hk1 x a hx hl K hK => ?_⟩
  have hs1 := hk1.size
  have hm : 2 * (bs[k].length + 1) * bytes ≤ 2 ^ 32 * 64 := Nat.mul_le_mul (by omega) hb
  refine rows_app (g5.keep hk1 (by simp)) (by omega) hz (G := [eC a]) (by simp [eC, valV]) (by simpa using eC_one [a]) (fun K' hK' => hx.src K' hK') (by simp; omega) (by simp; omega) fun v' w2 S' hr hk2 hS' => ?_
  have hs2 := hk2.size
  obtain ⟨va, vc, hva, _⟩ := hr.len
  have hone : Q.one v' = true := by rw [hva]; rfl
  have hS2 : ∀ q ∈ S', w0.heap.size ≤ q ∧ q ∉ So ∧ q ≠ y ∧ ∀ j, j ≠ k → q ∉ B j := by
    intro q hq
    rcases hS' q hq with hq | hq
    · obtain ⟨a1, a2, a3, a4⟩ := h5 k q hq
      exact ⟨a1, a3, a4, fun j hj => h6 k j q (fun h => hj h.symm) hq⟩
    · have hso := h1.lt
      refine ⟨?_, fun hm => by have := hso q hm; omega, by omega, fun j hj hm => by have := (h5 j q hm).2.1; omega⟩
      have := (h4 bl (by rw [g1]; simp)).1
      have := hso bl (by rw [g1]; simp)
      omega
  have hnS : ∀ q ∈ So, q ∉ B k := fun q hq hm => (h5 k q hm).2.2.1 hq
  have hso2 := (h1.keep hk1 (by simp)).keep hk2 hnS
  obtain ⟨bl', g1', g2', g3', g4'⟩ := hso2.updK (f := cel) hkv
  have hbl : bl' = bl := by rw [g1] at g1'; simpa using g1'.symm
  subst hbl
  refine hK v' w2 (fun j => if j = k then S' else B j) hk2 fun K2 hK2 => ?_
  refine g4' w2 (Kp.refl _ _) 0 (by omega) v' v' hone rfl K2 fun w3 hk3 hr3 => hK2 w3 hk3 ⟨⟨vs.set k v', hr3, by simp [h2], fun j hj v hv => ?_⟩, h4, fun j q hq => ?_, fun i j q hij hq => ?_⟩
  · simp only [List.length_set] at hj
    by_cases he : k = j
    · subst he
      rw [List.getElem?_set_self hkv] at hv
      injection hv with hv
      subst hv
      simp only [if_true]
      rw [List.getElem_set_self, List.map_append]
      exact hr.keep hk3 fun q hq => (hS2 q hq).2.1
    · rw [List.getElem?_set_ne he] at hv
      rw [List.getElem_set_ne he]
      have hjk : ¬ j = k := fun h => he h.symm
      simp only [if_neg hjk]
      exact (((h3 j hj v hv).keep hk1 (by simp)).keep hk2 fun q hq => h6 j k q hjk hq).keep hk3 fun q hq => (h5 j q hq).2.2.1
  · have hs3 := hk3.size
    by_cases hj : j = k
    · simp only [if_pos hj] at hq
      obtain ⟨a1, a2, a3, a4⟩ := hS2 q hq
      have := hr.lt q hq
      exact ⟨a1, by omega, a2, a3⟩
    · simp only [if_neg hj] at hq
      obtain ⟨a1, a2, a3, a4⟩ := h5 j q hq
      exact ⟨a1, by omega, a3, a4⟩
  · by_cases hi : i = k
    · have hj : ¬ j = k := fun h => hij (hi.trans h.symm)
      simp only [if_pos hi] at hq
      simp only [if_neg hj]
      exact (hS2 q hq).2.2.2 j hj
    · simp only [if_neg hi] at hq
      by_cases hj : j = k
      · simp only [if_pos hj]
        intro hm
        exact (hS2 q hm).2.2.2 i hi hq
      · simp only [if_neg hj]
        exact h6 i j q hij hq
end
end Go.Q

set_option linter.unusedVariables false
set_option linter.unusedSimpArgs false
namespace Go.Q
def ltV (a b : V3) : Prop := a.k < b.k ∨ a.k = b.k ∧ (a.n < b.n ∨ a.n = b.n ∧ lexL a.s b.s = true)
instance (a b : V3) : Decidable (ltV a b) := by unfold ltV; infer_instance
def leV (a b : V3) : Prop := ¬ ltV b a
instance (a b : V3) : Decidable (leV a b) := by unfold leV; infer_instance
structure ColV where
  nulls : Nat
  distinct : Nat
  steps : List V3
end Go.Q

set_option linter.unusedVariables false
set_option linter.unusedSimpArgs false
namespace Go.Q
structure Bd where
  has : Bool
  open_ : Bool
  val : V3
def above (v : V3) (lo : Bd) : Prop := lo.has = true → ltV lo.val v ∨ lo.val = v ∧ lo.open_ = false
def under (v : V3) (hi : Bd) : Prop := hi.has = true → ltV v hi.val ∨ v = hi.val ∧ hi.open_ = false
instance (v : V3) (lo : Bd) : Decidable (above v lo) := by unfold above; infer_instance
instance (v : V3) (hi : Bd) : Decidable (under v hi) := by unfold under; infer_instance
end Go.Q

set_option linter.unusedVariables false
set_option linter.unusedSimpArgs false
namespace Go.Q
section
variable {α : Type} {k : Nat} {f : α → List Value} {w0 w w' : World} {o v : Value} {bs : List (List α)} {rows : List (List Value)}
def Nst (k : Nat) (f : α → List Value) (w : World) (o : Value) (bs : List (List α)) : Prop :=
  ∃ vs : List Value, Rd w o 1 (vs.map cel) ∧ vs.length = bs.length ∧ ∀ i (h : i < bs.length) v, vs[i]? = some v → Rd w v k (bs[i].map f)
theorem Nst.lenL (h : Nst k f w o bs) {K : Value → Prop} : lenL o K = K (.int .i64 bs.length) := by
  obtain ⟨vs, h1, h2, h3⟩ := h
  rw [h1.lenL, List.length_map, h2]
theorem Fr.keepS {S : List Nat} {wb : World} (h : Fr w0 w v k rows) (hk : Kp S w w') (hS : ∀ x ∈ S, x < w0.heap.size) (hb : Kp [] wb w') (hs : wb.heap.size ≤ w0.heap.size) : Fr wb w' v k rows := by
  obtain ⟨Sv, h1, h2⟩ := h.ex
  exact ⟨⟨Sv, h1.keep hk fun x hx hm => by have := h2 x hx; have := hS x hm; omega, fun x hx => by have := h2 x hx; omega⟩, hb⟩
end
def cC (n d : Int) (v : Value) : List Value := [.int .i64 n, .int .i64 d, v]
def ColX (X : List Nat) (w : World) (cs : List Value) (c : ColV) : Prop := ∃ v, cs = cC c.nulls c.distinct v ∧ one v = true ∧ ∃ S, ArgAt w v 3 (c.steps.map valV) S ∧ ∀ x ∈ S, x ∉ X
section
variable {w w' : World} {X Y S : List Nat} {cs : List Value} {c : ColV}
theorem ColX.len (h : ColX X w cs c) : cs.length = 3 := by obtain ⟨v, h1, _⟩ := h; rw [h1]; rfl
end
end Go.Q

set_option maxRecDepth 100000
set_option linter.unusedVariables false
set_option linter.unusedSimpArgs false
namespace Go.Proofs
open Go Go.Q
open Tryz (prog)
theorem Rd.isOne8 {w : World} {v : Value} {k : Nat} {rows : List (List Value)} (h : Rd w v k rows) : Q.one v = true := by
  obtain ⟨a, c, rfl⟩ := h.slice
  rfl
section
variable {w0 w w' : World} {kb bd ab : Nat} {l l' : LV} {t : Nat} {lp : Value} {X S B : List Nat} {R : KW} {d : DK} {g : LG}
theorem KS.keep (h : KS w0 w kb bd ab l t g d B) (hk : Kp [] w w') : KS w0 w' kb bd ab l t g d B := ⟨h.ol.keep0 hk, h.kb0, h.kbB, h.kc.keep0 hk⟩
theorem KS.kp (h : KS w0 w kb bd ab l t g d B) : Kp [] w0 w := h.ol.kp
theorem KS.lts (h : KS w0 w kb bd ab l t g d B) : ∀ y ∈ kb :: B, y < w.heap.size := by
  intro y hy
  rcases List.mem_cons.1 hy with rfl | hy
  · exact h.kc.lt
  · exact h.ol.live y hy
theorem given_k (h : KC w kb bd l t lp X) (hR : R (.bool true) w) : callG prog 40 #[.pointer (some ⟨kb, 0, none⟩)] w R := by
  refine Fn35_call ?_
  unfold Fn35 Fn35_s0
  rw [bq_pneq _ (by kernel_rfl)]
  simp only [bV_b, Option.isNone_some, Bool.not_false]
  refine ⟨fun _ => ?_, fun h => by simp at h⟩
  rw [nk_p, fa_p, h.ldd, bq_pneq _ (by kernel_rfl)]
  exact hR
theorem turn_k (h : KC w kb bd l t lp X) (hR : R (.int .i64 (t : Nat)) w) : callG prog 16 #[.pointer (some ⟨kb, 0, none⟩)] w R := by
  refine Fn33_call ?_
  unfold Fn33 Fn33_s0
  refine given_k h ?_
  simp only [un_not, bV_b]
  refine ⟨fun h => by simp at h, fun _ => ?_⟩
  rw [nk_p, fa_p, h.ldt]
  exact hR
theorem ledger_k (h : KC w kb bd l t lp X) (hm : May l) (hR : ∀ w' v, Kp [] w w' → LedAt w' v l → (∀ Y : List Nat, (∀ y ∈ Y, y < w.heap.size) → LX Y w' v l) → R v w') : callG prog 13 #[.pointer (some ⟨kb, 0, none⟩)] w R := by
  refine Fn30_call ?_
  unfold Fn30 Fn30_s0
  have hfew := hm.few
  unfold fullL at hfew
  simp only [decide_eq_false_iff_not, not_or, Nat.not_lt] at hfew
  obtain ⟨fw1, fw2, fw3⟩ := hfew
  refine newB fun p2 w1 hp2 h2 k1 => ?_
  have h1 := h.keep0 k1
  refine given_k h1 ?_
  simp only [un_not, bV_b]
  refine ⟨fun h => by simp at h, fun _ => ?_⟩
  obtain ⟨a, b, c, hcell, hlx⟩ := h1.ex
  have hld : ∀ K : Value → Prop, ldn 4 (.pointer (some ⟨kb, 0 + 1, none⟩)) w1 K = K (.agg #[a, b, c, .int .i64 l.ops]) := fun K => ldP hcell (p := #[a, b, c, .int .i64 l.ops]) rfl (by simp)
  obtain ⟨a', b', c', e, r1, r2, r3⟩ := hlx.at
  simp only [Value.agg.injEq, Array.mk.injEq, List.cons.injEq] at e
  obtain ⟨rfl, rfl, rfl, _⟩ := e
  rw [nk_p, fa_p, hld]
  refine newB fun p3 w2 hp3 h3 k2 => ?_
  have z1 := k1.size
  have z2 := k2.size
  have l2 := lt_of_blk h2
  have l3 := lt_of_blk h3
  have o1 : Q.one a = true := Rd.isOne8 r1
  have o2 : Q.one b = true := Rd.isOne8 r2
  have o3 : Q.one c = true := Rd.isOne8 r3
  rw [stA (k := 4) (c := #[a, b, c, .int .i64 l.ops]) h3 (by rw [zcLed]; rfl) rfl (by simp [o1, o2, o3])]
  generalize hw3 : setBlk w2 p3 (.cells #[a, b, c, .int .i64 l.ops] 26) = w3
  have h33 : w3.heap[p3]? = some (.cells #[a, b, c, .int .i64 l.ops] 26) := by rw [← hw3]; exact heap_self (live_of h3)
  have k3 : Kp [p3] w2 w3 := by rw [← hw3]; exact (Kp.refl _ _).setBlk (.inl (by simp)) _
  have k13 : Kp [] w1 w3 := k2.trans k3 fun y hy hlt => by simp at hy; omega
  have z3 := k3.size
  have h23 := k13.get h2 (by simp)
  have h3d : w3.drew.heap[p3]? = some (.cells #[a, b, c, .int .i64 l.ops] 26) := h33
  have kd : Kp [] w3 w3.drew := (Kp.refl [] w3).drew
  rw [fa_p, ldF (w := w3.drew) h3d (j := 0 + 0) (x := a) rfl, fa_p, ldF (w := w3.drew) h3d (j := 0 + 1) (x := b) rfl, fa_p, ldF (w := w3.drew) h3d (j := 0 + 2) (x := c) rfl]
  refine cloneStock_spec (r1.keep (k13.trans' kd)) (by omega) fun v1 w4 hf1 => ?_
  have h34 := hf1.kp.get h3d (by simp)
  have z4 := hf1.kp.size
  have zd : w3.drew.heap.size = w3.heap.size := rfl
  refine ⟨by rw [ldF h34 (j := 0 + 2) (x := c) rfl], by rw [ldF h34 (j := 0 + 1) (x := b) rfl], ?_⟩
  rw [fa_p]
  refine cloneHold_spec (r2.keep ((k13.trans' kd).trans' hf1.kp)) (by omega) fun v2 w5 hf2 => ?_
  have h35 := hf2.kp.get h34 (by simp)
  have z5 := hf2.kp.size
  refine ⟨by rw [ldF h35 (j := 0 + 2) (x := c) rfl], ?_⟩
  refine cloneMove_spec (r3.keep (((k13.trans' kd).trans' hf1.kp).trans' hf2.kp)) (by omega) fun v3 w6 hf3 => ?_
  have h36 := hf3.kp.get h35 (by simp)
  have z6 := hf3.kp.size
  rw [stF h36 (by simp) hf1.one]
  generalize hw7 : setBlk w6 p3 _ = w7
  have h37 : w7.heap[p3]? = some (.cells #[v1, b, c, .int .i64 l.ops] 26) := by rw [← hw7]; exact heap_self (live_of h36)
  have k7 : Kp [p3] w6 w7 := by rw [← hw7]; exact (Kp.refl _ _).setBlk (.inl (by simp)) _
  rw [fa_p, stF h37 (by simp) hf2.one]
  generalize hw8 : setBlk w7 p3 _ = w8
  have h38 : w8.heap[p3]? = some (.cells #[v1, v2, c, .int .i64 l.ops] 26) := by rw [← hw8]; exact heap_self (live_of h37)
  have k8 : Kp [p3] w7 w8 := by rw [← hw8]; exact (Kp.refl _ _).setBlk (.inl (by simp)) _
  rw [fa_p, stF h38 (by simp) hf3.one]
  generalize hw9 : setBlk w8 p3 _ = w9
  have h39 : w9.heap[p3]? = some (.cells #[v1, v2, v3, .int .i64 l.ops] 26) := by rw [← hw9]; exact heap_self (live_of h38)
  have k9 : Kp [p3] w8 w9 := by rw [← hw9]; exact (Kp.refl _ _).setBlk (.inl (by simp)) _
  have k69 := (k7.trans' k8).trans' k9
  have k36 : Kp [] w3 w6 := ((kd.trans' hf1.kp).trans' hf2.kp).trans' hf3.kp
  have h29 := k69.get (k36.get h23 (by simp)) (by simp; omega)
  rw [ldA (k := 4) h39 rfl]
  refine retB (by kernel_rfl) (by kernel_rfl) h29 (by rw [zcLed]; rfl) rfl (by simp [hf1.one, hf2.one, hf3.one]) fun w10 k10 => ?_
  have k610 : Kp [p3, p2] w6 w10 := (k69.mono fun y hy _ => by simp at hy; simp [hy]).trans' (k10.mono fun y hy _ => by simp at hy; simp [hy])
  have k010 : Kp [] w w10 := ((k1.trans' k13).trans' k36).trans k610 fun y hy hlt => by simp at hy; omega
  have g1 := hf1.keepS (wb := w) ((hf2.kp.trans' hf3.kp).mono (by simp) |>.trans' k610) (by simp; omega) k010 (by omega)
  have g2 := hf2.keepS (wb := w) (hf3.kp.mono (by simp) |>.trans' k610) (by simp; omega) k010 (by omega)
  have g3 := hf3.keepS (wb := w) k610 (by simp; omega) k010 (by omega)
  refine hR w10 _ k010 ⟨v1, v2, v3, rfl, g1.rd, g2.rd, g3.rd⟩ fun Y hY => ?_
  obtain ⟨SA, x1, y1⟩ := g1.ex
  obtain ⟨SB, x2, y2⟩ := g2.ex
  obtain ⟨SC, x3, y3⟩ := g3.ex
  refine ⟨SA ++ (SB ++ SC), ⟨⟨v1, v2, v3, SA, SB, SC, rfl, .inr x1.rd, .inr x2.rd, .inr x3.rd, rfl⟩, fun q hq => ?_⟩, fun q hq hm => ?_⟩
  · simp only [List.mem_append] at hq
    rcases hq with hq | hq | hq
    · exact x1.lt q hq
    · exact x2.lt q hq
    · exact x3.lt q hq
  · have := hY q hm
    simp only [List.mem_append] at hq
    rcases hq with hq | hq | hq
    · have := y1 q hq; omega
    · have := y2 q hq; omega
    · have := y3 q hq; omega
theorem sync_k (h : KS w0 w kb bd ab l t g d B) (hl : d.l.length < 2 ^ 40) (hR : ∀ w', KS w0 w' kb bd ab l t g d.flush.1 B → Kp (kb :: B) w w' → R (.int .i64 d.flush.2) w') : callG prog 19 #[.pointer (some ⟨kb, 0, none⟩)] w R := by
  refine Fn32_call ?_
  unfold Fn32 Fn32_s0
  refine given_k h.kc ?_
  simp only [un_not, bV_b]
  refine ⟨fun h => by simp at h, fun _ => ?_⟩
  rw [nk_p, fa_p, h.kc.ldlog]
  refine ol_sync h.ol hl fun w1 o1 k1 => ?_
  exact hR w1 ⟨o1, h.kb0, h.kbB, h.kc.keep k1 (fun y hy => hy) h.kbB⟩ (k1.mono fun y hy _ => by simp [hy])
end
end Go.Proofs

