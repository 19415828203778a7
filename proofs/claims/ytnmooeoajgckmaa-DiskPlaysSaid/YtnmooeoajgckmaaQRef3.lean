/- Part of the proof (text QRef3): an engine, rules or contracts of the functions; it states nothing of the claim by itself. -/
import Derived.Test.YtnmooeoajgckmaaQSure2
import Derived.Test.YtnmooeoajgckmaaXRef3
import Derived.Test.YtnmooeoajgckmaaQRead
/- The document's disk (the reference): what each function does. Its lists are never written over. -/
set_option linter.unusedVariables false
set_option linter.unusedSimpArgs false
namespace Go.Proofs
open Go Go.Q
theorem Try.agg39 : aggO Try.prog 39 = some true := by kernel_rfl
theorem Try.sz39 : szO Try.prog 39 = some 4 := by kernel_rfl
theorem lv39 {b : Nat} {w : World} {c : Array Value} {T : TypeId} {fr : Nat × Nat} (hh : w.heap[b]? = some (.cells c T fr)) (hs : c.size = 4) {K : Value → Prop} :
    qG Try.prog (do loadVar 39 (← asAddr (.pointer (some ⟨b, 0, none⟩)))) w K = K (.agg c) := by
  refine qG_of ?_
  have h : ldn 4 (.pointer (some ⟨b, 0, none⟩)) w (fun v => v = .agg c) := by
    rw [ldn_p]; unfold rdN; simp only [hh, true_and, hs, Nat.zero_add, Nat.le_refl]
    have : c.extract 0 4 = c := by rw [← hs]; simp
    rw [this]
  obtain ⟨v, hr, hv⟩ := ldn_q (P := Try.prog) Try.agg39 Try.sz39 h
  subst hv
  exact hr
def qc (sv lv : Value) (d : DK) : Array Value := #[sv, lv, .int .i64 d.fuse, .bool d.off]
theorem zc39 : zc Try.prog 39 = #[.slice none 0 0, .slice none 0 0, .int .i64 0, .bool false] := by kernel_rfl
def strV (s : List UInt8) : List Value := [.string (str s)]
def wroteV (x : Nat × List UInt8) : List Value := [.int .i64 x.1, .string (str x.2)]
theorem newG2 {w : World} {c1 c2 : Array Value} {T1 T2 : TypeId} {K : Value → Value → World → Prop}
    (h : ∀ a b w1, w.heap.size ≤ a → w.heap.size ≤ b → ¬ a = b → ¬ b = a → w1.heap[a]? = some (.cells c1 T1) → w1.heap[b]? = some (.cells c2 T2) → Live w1 a → Live w1 b → Kp [] w w1 →
      K (.pointer (some ⟨a, 0, none⟩)) (.pointer (some ⟨b, 0, none⟩)) w1) :
    newG c1 T1 w fun x w => newG c2 T2 w fun y w => K x y w := by
  rw [newG_k, newG_k]
  refine h _ _ _ (Nat.le_refl _) (by simp) (by simp) (by simp) ?_ heap_new ?_ ?_ (((Kp.refl [] w).alloc _).alloc _)
  · rw [heap_alloc, if_neg (by simp), heap_new]
  · unfold Live; simp; omega
  · unfold Live; simp
theorem lvS {b : Nat} {w : World} {c : Array Value} {T : TypeId} {fr : Nat × Nat} (hb : Live w b) (hs : c.size = 4) {K : Value → Prop} :
    qG Try.prog (do loadVar 39 (← asAddr (.pointer (some ⟨b, 0, none⟩)))) (setBlk w b (.cells c T fr)) K = K (.agg c) := lv39 (heap_self hb) hs
theorem spl4 {a b c d x y z u : Value} : splice #[a, b, c, d] 0 #[x, y, z, u] = #[x, y, z, u] := rfl
theorem one4 {a b c d : Value} : (#[a, b, c, d] : Array Value).all one = (one a && (one b && (one c && one d))) := by
  rw [← Array.all_toList]; simp
theorem one2 {a b : Value} : (#[a, b] : Array Value).all one = (one a && one b) := by
  rw [← Array.all_toList]; simp
theorem one4p {a b c d : Value} (ha : one a = true) (hb : one b = true) (hc : one c = true) (hd : one d = true) : ∀ (i : Nat) (x : i < 4), one ([a, b, c, d] : List Value)[i] = true := by
  intro i hi
  match i, hi with
  | 0, _ => exact ha
  | 1, _ => exact hb
  | 2, _ => exact hc
  | 3, _ => exact hd
theorem one_i {k : IntKind} {n : Int} : one (.int k n) = true := rfl
theorem one_b {t : Bool} : one (.bool t) = true := rfl
theorem ref_burns {w : World} {sv lv : Value} {d : DK} (hs : one sv = true) (hl : one lv = true) (hf : -1 ≤ d.fuse ∧ d.fuse < 9223372036854775808) {K : Value → World → Prop}
    (hK : ∀ w', Kp [] w w' → K (.tuple #[.agg (qc sv lv d.burns.1), .bool d.burns.2]) w') : callG Try.prog 47 #[.agg (qc sv lv d)] w K := by
  refine ref03_burns_call ?_
  simp only [ref03_burns, ref03_burns_s3]
  refine newG2 fun a b w1 ha hb hab hba hA hB la lb hk => ?_
  have hc : Value.cells (.agg (qc sv lv d)) = qc sv lv d := rfl
  rw [hc] at hA
  simp only [qc, zc39] at hA hB
  have hk1 : ∀ o o', Kp [] w (setBlk (setBlk w1 a o) b o') := fun o o' => (hk.setBlk (.inr ha) _).setBlk (.inr hb) _
  have hk2 : ∀ o, Kp [] w (setBlk w1 b o) := fun o => hk.setBlk (.inr hb) _
  simp [-getElem?_pos, -Array.getElem?_eq_getElem, -List.length_flatten, List.getElem?_cons_zero, List.getElem?_cons_succ, ref03_burns_s2, ref03_burns_s1, ref03_burns_s0, hA, hB, heap_self, heap_ne, hab, hba, la, lb, -Array.all_eq_true, lvS, spl4, one4, one_i, one_b, hs, hl]
  unfold DK.burns qc at hK
  refine ⟨fun ho => ?_, fun ho => ⟨fun h0 => ?_, fun h0 => ⟨fun hp => ?_, fun hp => ?_⟩⟩⟩
  · rw [if_pos (.inl ho)] at hK
    exact hK _ (hk1 _ _)
  · rw [if_pos (.inr h0)] at hK
    exact hK _ (hk1 _ _)
  · rw [if_neg (by simp [ho, h0])] at hK
    rw [w64 (by omega) (by omega)]
    have := hK _ (hk1 (.cells #[sv, lv, .int .i64 (d.fuse - 1), .bool d.off] 39) (.cells #[sv, lv, .int .i64 (d.fuse - 1), .bool d.off] 39))
    simpa [hp] using this
  · rw [if_neg (by simp [ho, h0])] at hK
    have := hK _ (hk2 (.cells #[sv, lv, .int .i64 d.fuse, .bool d.off] 39))
    have hp' : ¬ d.fuse > 0 := by omega
    simpa [hp'] using this
/-- the document's disk: a struct of two lists, a fuse, and whether the power is off -/
def RefAt (w : World) (x : Value) (d : DK) (S : List Nat) : Prop :=
  ∃ sv lv SS SL, x = .agg (qc sv lv d) ∧ RowsAt w sv 1 (d.sure.map strV) SS ∧ RowsAt w lv 2 (d.l.map wroteV) SL ∧ S = SS ++ SL
theorem RefAt.keep {w w' : World} {x : Value} {d : DK} {S S' : List Nat} (h : RefAt w x d S) (hk : Kp S' w w') (hd : ∀ y ∈ S, y ∉ S') : RefAt w' x d S := by
  obtain ⟨sv, lv, SS, SL, h1, h2, h3, rfl⟩ := h
  exact ⟨sv, lv, SS, SL, h1, h2.keep hk (fun y hy => hd y (by simp [hy])), h3.keep hk (fun y hy => hd y (by simp [hy])), rfl⟩
theorem rows_one {w : World} {v : Value} {k : Nat} {rows : List (List Value)} {S : List Nat} (h : RowsAt w v k rows S) : one v = true := by
  obtain ⟨a, c, h, _⟩ := h.len
  rw [h]; rfl
theorem strV_one (L : List (List UInt8)) : (L.map strV).flatten.all Q.one = true := by
  induction L with
  | nil => rfl
  | cons x r ih => simp [strV, Q.one] at ih ⊢
theorem wroteV_one (L : List (Nat × List UInt8)) : (L.map wroteV).flatten.all Q.one = true := by
  induction L with
  | nil => rfl
  | cons x r ih => simp [wroteV, Q.one] at ih ⊢
theorem zc9 : zc Try.prog 9 = [Value.string ⟨#[]⟩].toArray := by kernel_rfl
theorem zc97 : zc Try.prog 97 = [Value.int .i64 0, Value.string ⟨#[]⟩].toArray := by kernel_rfl
theorem ref_with {w : World} {sv : Value} {L : List (List UInt8)} {S : List Nat} (h : RowsAt w sv 1 (L.map strV) S) {p : Nat} (hp : p < L.length) (hL : L.length < 2 ^ 40) (s : List UInt8) {K : Value → World → Prop}
    (hK : ∀ v' w' S', RowsAt w' v' 1 ((L.set p s).map strV) S' → Kp [] w w' → (∀ y ∈ S', w.heap.size ≤ y) → K v' w') : callG Try.prog 48 #[sv, .int .i64 p, .string (str s)] w K := by
  refine ref03_with_call ?_
  simp only [ref03_with, ref03_with_s0]
  obtain ⟨v1, hv1, e1⟩ := h.rd.take (p := p) (by simp; omega) (kd := .i64)
  rw [e1, zc9]
  have hone1 : (((L.map strV).take p)).flatten.all Q.one = true := by rw [← List.map_take]; exact strV_one _
  refine rows_app (k := 1) (z := [.string ⟨#[]⟩]) (rows := []) (G := (L.map strV).take p) (S := []) (.inl ⟨rfl, rfl, rfl⟩) (by omega) rfl (fun y hy => hv1.row hy) hone1 (fun K' hK' => hv1.src K' hK') (by simp; omega) (by simp; omega) fun v2 w2 S2 h2 hk2 hS2 => ?_
  rw [bsl_one rfl]
  obtain ⟨w3, hw3⟩ : ∃ w3, w3 = w2.alloc (.cells #[.string (str s)] 9) := ⟨_, rfl⟩
  have hk3 : Kp [] w2 w3 := by rw [hw3]; exact (Kp.refl [] w2).alloc _
  have hb3 : w3.heap[w2.heap.size]? = some (.cells #[.string (str s)] 9) := by rw [hw3]; exact heap_new
  rw [← hw3]
  have h3 := h2.keep hk3 (by simp)
  have hs3 : RdAt w3 (.slice (some ⟨w2.heap.size, 0, none⟩) 1 1) 1 [strV s] [w2.heap.size] :=
    .inr ⟨_, 0, 1, _, _, _, rfl, rfl, hb3, by simp [strV], by simp, by simp [strV], by simp⟩
  refine rows_app (k := 1) (z := [.string ⟨#[]⟩]) (G := [strV s]) h3 (by omega) rfl (by simp [strV]) (by simp [strV, Q.one]) (fun K' hK' => hs3.src K' hK') (by simp; omega) (by simp; omega) fun v4 w4 S4 h4 hk4 hS4 => ?_
  have hk24 : Kp [] w w4 := by
    refine (hk2.trans' hk3).trans hk4 fun y hy hlt => ?_
    rcases hS2 y hy with h | h
    · cases h
    · omega
  have hp1 : IntKind.i64.wrap ((p : Int) + 1) = ((p + 1 : Nat) : Int) := by rw [w64 (by omega) (by omega)]; simp
  simp only [bq_add, hp1]
  obtain ⟨v5, hv5, e5⟩ := h.rd.drop (p := p + 1) (by simp; omega) (kd := .i64)
  rw [e5]
  have hv5 := hv5.keep hk24 (by simp)
  have hone5 : (((L.map strV).drop (p + 1))).flatten.all Q.one = true := by rw [← List.map_drop]; exact strV_one _
  refine rows_app (k := 1) (z := [.string ⟨#[]⟩]) (G := (L.map strV).drop (p + 1)) h4 (by omega) rfl (fun y hy => hv5.row hy) hone5 (fun K' hK' => hv5.src K' hK') (by simp; omega) (by simp; omega) fun v6 w6 S6 h6 hk6 hS6 => ?_
  have hset : [] ++ (L.map strV).take p ++ [strV s] ++ (L.map strV).drop (p + 1) = (L.set p s).map strV := by
    rw [List.map_set, List.set_eq_take_append_cons_drop, if_pos (by simpa using hp)]
    simp
  rw [hset] at h6
  have hn4 : ∀ y ∈ S4, w.heap.size ≤ y := fun y hy => by
    rcases hS4 y hy with h | h
    · rcases hS2 y h with h | h
      · cases h
      · exact h
    · have := hk2.size; have := hk3.size; omega
  refine hK v6 w6 S6 h6 (hk24.trans hk6 fun y hy hlt => by have := hn4 y hy; omega) fun y hy => ?_
  rcases hS6 y hy with h | h
  · exact hn4 y h
  · have := hk24.size; omega
theorem bsl_agg {e n : Nat} {z cs : Array Value} (hc : cs.size = n) {w : World} {k : Value → World → Prop} : bsl e n 1 z #[(0, .agg cs)] w k = k (.slice (some ⟨w.heap.size, 0, none⟩) 1 1) (w.alloc (.cells cs e)) := by
  have hr : (rep z (1 * n)).size = n := by simp [rep]
  unfold bsl
  show (match Instr.fill (fun i => some (i * n, n)) (rep z (1 * n)) [(0, Value.agg cs)] with | some cs => k (Value.slice (some ⟨w.heap.size, 0, none⟩) 1 1) (w.alloc (Obj.cells cs e)) | none => False) = _
  rw [fill_step (off := 0) (size := n) (by simp) (show (Value.agg cs).cells.size = n from hc) (by omega)]
  have e : splice (rep z (1 * n)) 0 (Value.cells (.agg cs)) = cs := splice_all (by rw [hr]; exact hc.symm)
  simp only [Instr.fill, e]
theorem bld97 {x y : Value} (hx : one x = true) (hy : one y = true) {k : Value → Prop} : bld [(0, 1), (1, 1)] (zc Try.prog 97) #[(0, x), (1, y)] k = k (.agg #[x, y]) := by
  have hcx := cells_one hx
  have hcy := cells_one hy
  rw [zc97]
  unfold bld
  rw [fill_step (off := 0) (size := 1) rfl (by rw [hcx]; rfl) (by simp), hcx, fill_step (off := 1) (size := 1) rfl (by rw [hcy]; rfl) (by simp [splice]), hcy]
  rfl
theorem bld39 {x y : Value} (hx : one x = true) (hy : one y = true) {k : Value → Prop} : bld [(0, 1), (1, 1), (2, 1), (3, 1)] (zc Try.prog 39) #[(0, x), (2, y)] k = k (.agg #[x, .slice none 0 0, y, .bool false]) := by
  have hcx := cells_one hx
  have hcy := cells_one hy
  rw [zc39]
  unfold bld
  rw [fill_step (off := 0) (size := 1) rfl (by rw [hcx]; rfl) (by simp), hcx, fill_step (off := 2) (size := 1) rfl (by rw [hcy]; rfl) (by simp [splice]), hcy]
  rfl
theorem bld39z {k : Value → Prop} : bld [(0, 1), (1, 1), (2, 1), (3, 1)] (zc Try.prog 39) #[] k = k (.agg #[.slice none 0 0, .slice none 0 0, .int .i64 0, .bool false]) := by
  rw [zc39]; rfl
theorem burns_same (d : DK) : d.burns.1.sure = d.sure ∧ d.burns.1.l = d.l := by unfold DK.burns; split <;> simp
theorem ext4 {a b c d : Value} : (#[a, b, c, d] : Array Value).extract 0 4 = #[a, b, c, d] := rfl
theorem ref_burned {w w' : World} {sv lv : Value} {d : DK} {SS SL : List Nat} (hs : RowsAt w sv 1 (d.sure.map strV) SS) (hlg : RowsAt w lv 2 (d.l.map wroteV) SL) (hk : Kp [] w w') :
    RefAt w' (.agg (qc sv lv d.burns.1)) d.burns.1 (SS ++ SL) := by
  obtain ⟨b1, b2⟩ := burns_same d
  exact ⟨sv, lv, SS, SL, rfl, by rw [b1]; exact hs.keep hk (by simp), by rw [b2]; exact hlg.keep hk (by simp), rfl⟩
theorem ref_Write {w : World} {x : Value} {d : DK} {S : List Nat} (h : RefAt w x d S) (ok : d.Ok) (hl : d.l.length < 2 ^ 40) (at_ : Int) (s : List UInt8) {K : Value → World → Prop}
    (hK : ∀ w' x' S', RefAt w' x' (d.write at_ s).1 S' → Kp [] w w' → (∀ y ∈ S', y ∈ S ∨ w.heap.size ≤ y) → K (.tuple #[x', .int .i64 (d.write at_ s).2]) w') :
    callG Try.prog 20 #[x, .int .i64 at_, .string (str s)] w K := by
  refine ref03_Write_call ?_
  obtain ⟨sv, lv, SS, SL, rfl, hs, hlg, rfl⟩ := h
  simp only [ref03_Write, ref03_Write_s1]
  refine newG2 fun a b w1 ha hb hab hba hA hB la lb hk => ?_
  have hc : Value.cells (.agg (qc sv lv d)) = qc sv lv d := rfl
  rw [hc] at hA
  simp only [qc, zc39] at hA hB
  obtain ⟨sa, sc, hsv, hcs⟩ := hs.len
  have hsv1 := rows_one hs
  have hlv1 := rows_one hlg
  have hsl : ∀ K : Value → Prop, lenL sv K = K (.int .i64 d.now.length) := by intro K; rw [hsv]; simp [ok.len]
  have hkb : ∀ o, Kp [] w (setBlk w1 b o) := fun o => hk.setBlk (.inr hb) _
  have hbad : ¬ ((0 ≤ at_ ∧ at_ < d.now.length) ∧ s.length = 32) → K (.tuple #[.agg #[sv, lv, .int .i64 d.fuse, .bool d.off], .int .i64 1]) (setBlk w1 b (.cells #[sv, lv, .int .i64 d.fuse, .bool d.off] 39)) := by
    intro hb'
    have := hK (setBlk w1 b (.cells #[sv, lv, .int .i64 d.fuse, .bool d.off] 39)) (.agg (qc sv lv d)) (SS ++ SL)
    unfold DK.write at this
    rw [if_neg hb'] at this
    exact this ⟨sv, lv, SS, SL, rfl, hs.keep (hkb _) (by simp), hlg.keep (hkb _) (by simp), rfl⟩ (hkb _) (fun y hy => .inl hy)
  simp [-getElem?_pos, -Array.getElem?_eq_getElem, -List.length_flatten, List.getElem?_cons_zero, List.getElem?_cons_succ, hA, hB, heap_self, heap_ne, hab, hba, la, lb, -Array.all_eq_true, lvS, spl4, one4, one_i, one_b, hsv1, hlv1, hsl, ext4]
  refine ⟨fun h0 => hbad (by omega), fun h0 => ⟨fun h1 => hbad (by omega), fun h1 => ⟨fun h2 => hbad (by omega), fun h2 => ?_⟩⟩⟩
  have hgood : (0 ≤ at_ ∧ at_ < d.now.length) ∧ s.length = 32 := by omega
  unfold ref03_Write_s0
  unfold DK.write at hK
  rw [if_pos hgood] at hK
  simp [-getElem?_pos, -Array.getElem?_eq_getElem, -List.length_flatten, List.getElem?_cons_zero, List.getElem?_cons_succ, hA, ext4]
  refine ref_burns (sv := sv) (lv := lv) (d := d) hsv1 hlv1 ⟨ok.f0, ok.f1⟩ fun w2 hk2 => ?_
  obtain ⟨b1, b2⟩ := burns_same d
  have hA2 := hk2.get hA (by simp)
  have hB2 := hk2.get hB (by simp)
  have la2 := live_of hA2
  have lb2 := live_of hB2
  have hkw2 : Kp [] w w2 := hk.trans' hk2
  cases hon : d.burns.2 with
  | false =>
    simp only [hon, Bool.false_eq_true, if_false] at hK
    have hkb2 : ∀ o o', Kp [] w (setBlk (setBlk w2 a o) b o') := fun o o' => (hkw2.setBlk (.inr ha) _).setBlk (.inr hb) _
    have := hK _ (.agg (qc sv lv d.burns.1)) (SS ++ SL) (ref_burned hs hlg (hkb2 (.cells (qc sv lv d.burns.1) 39) (.cells (qc sv lv d.burns.1) 39))) (hkb2 _ _) (fun y hy => .inl hy)
    simp only [qc] at this
    simp [-getElem?_pos, -Array.getElem?_eq_getElem, -List.length_flatten, List.getElem?_cons_zero, List.getElem?_cons_succ, qc, hA2, hB2, heap_self, heap_ne, hab, hba, la2, lb2, -Array.all_eq_true, lvS, spl4, one4, one_i, one_b, hsv1, hlv1, ext4]
    exact ⟨one4p hsv1 hlv1 rfl rfl, this⟩
  | true =>
    simp only [hon, if_true] at hK
    simp [-getElem?_pos, -Array.getElem?_eq_getElem, -List.length_flatten, List.getElem?_cons_zero, List.getElem?_cons_succ, qc, hA2, hB2, heap_self, heap_ne, hab, hba, la2, lb2, -Array.all_eq_true, lvS, spl4, one4, one_i, one_b, hsv1, hlv1, ext4]
    obtain ⟨b1, b2⟩ := burns_same d
    obtain ⟨f', hf'⟩ : ∃ f', f' = d.burns.1.fuse := ⟨_, rfl⟩
    obtain ⟨o', ho'⟩ : ∃ o', o' = d.burns.1.off := ⟨_, rfl⟩
    rw [← hf', ← ho']
    obtain ⟨w3, hw3⟩ : ∃ w3, w3 = setBlk w2 a (.cells #[sv, lv, .int .i64 f', .bool o'] 39) := ⟨_, rfl⟩
    have hkw3 : Kp [] w w3 := by rw [hw3]; exact hkw2.setBlk (.inr ha) _
    have hA3 : w3.heap[a]? = some (.cells #[sv, lv, .int .i64 f', .bool o'] 39) := by rw [hw3]; exact heap_self la2
    have hB3 : w3.heap[b]? = some (.cells #[.slice none 0 0, .slice none 0 0, .int .i64 0, .bool false] 39) := by rw [hw3, heap_ne hab]; exact hB2
    rw [← hw3]
    have hl3 := (hlg.keep hkw3 (by simp)).rd
    have hz := zc97
    rw [hz]
    refine rows_app (k := 2) (z := [Value.int .i64 0, .string ⟨#[]⟩]) (rows := []) (G := d.l.map wroteV) (S := []) (.inl ⟨rfl, rfl, rfl⟩) (by omega) rfl (fun y hy => hl3.row hy) (wroteV_one _) (fun K' hK' => hl3.src K' hK') (by simp; omega) (by simp; omega) fun v4 w4 S4 h4 hk4 hS4 => ?_
    rw [← hz, bld97 rfl rfl, bsl_agg (n := 2) rfl]
    obtain ⟨w5, hw5⟩ : ∃ w5, w5 = w4.alloc (.cells #[.int .i64 at_, .string (str s)] 97) := ⟨_, rfl⟩
    have hk5 : Kp [] w4 w5 := by rw [hw5]; exact (Kp.refl [] w4).alloc _
    have hb5 : w5.heap[w4.heap.size]? = some (.cells #[.int .i64 at_, .string (str s)] 97) := by rw [hw5]; exact heap_new
    rw [← hw5, hz]
    have hat : ((at_.toNat : Nat) : Int) = at_ := by omega
    have hs5 : RdAt w5 (.slice (some ⟨w4.heap.size, 0, none⟩) 1 1) 2 [wroteV (at_.toNat, s)] [w4.heap.size] :=
      .inr ⟨_, 0, 1, _, _, _, rfl, rfl, hb5, by simp [wroteV], by simp, by simp [wroteV, hat], by simp⟩
    have hw0 := hk4.size
    refine rows_app (k := 2) (z := [Value.int .i64 0, .string ⟨#[]⟩]) (G := [wroteV (at_.toNat, s)]) (h4.keep hk5 (by simp)) (by omega) rfl (by simp [wroteV]) (by simp [wroteV, Q.one]) (fun K' hK' => hs5.src K' hK') (by simp; omega) (by simp; omega) fun v6 w6 S6 h6 hk6 hS6 => ?_
    have hn4 : ∀ y ∈ S4, w3.heap.size ≤ y := fun y hy => by
      rcases hS4 y hy with h | h
      · cases h
      · exact h
    have hs3 := hkw3.size
    have hk46 : Kp [] w3 w6 := (hk4.trans' hk5).trans hk6 fun y hy hlt => by have := hn4 y hy; omega
    have hA6 := hk46.get hA3 (by simp)
    have hB6 := hk46.get hB3 (by simp)
    have la6 := live_of hA6
    have lb6 := live_of hB6
    have hv6 := rows_one h6
    have hkw6 : Kp [] w w6 := hkw3.trans' hk46
    have hend : ∀ o o', Kp [] w (setBlk (setBlk w6 a o) b o') := fun o o' => (hkw6.setBlk (.inr ha) _).setBlk (.inr hb) _
    have ha3 := live_of hA3
    have hb3 := live_of hB3
    unfold Live at ha3 hb3
    have hne6 : ∀ y ∈ S6, w3.heap.size ≤ y := fun y hy => by
      rcases hS6 y hy with h | h
      · exact hn4 y h
      · have := hk5.size; omega
    simp [-getElem?_pos, -Array.getElem?_eq_getElem, -List.length_flatten, List.getElem?_cons_zero, List.getElem?_cons_succ, hA6, hB6, heap_self, heap_ne, hab, hba, la6, lb6, -Array.all_eq_true, lvS, spl4, one4, one_i, one_b, hsv1, hlv1, ext4, hv6]
    have hfin := hK (setBlk (setBlk w6 a (.cells #[sv, v6, .int .i64 f', .bool o'] 39)) b (.cells #[sv, v6, .int .i64 f', .bool o'] 39)) (.agg #[sv, v6, .int .i64 f', .bool o']) (SS ++ S6)
    refine ⟨one4p hsv1 hv6 rfl rfl, hfin ⟨sv, v6, SS, S6, by rw [hf', ho']; rfl, ?_, ?_, rfl⟩ (hend _ _) fun y hy => ?_⟩
    · show RowsAt _ sv 1 (List.map strV d.burns.1.sure) SS
      rw [b1]; exact hs.keep (hend _ _) (by simp)
    · show RowsAt _ v6 2 (List.map wroteV (d.l ++ [(at_.toNat, s)])) S6
      rw [List.map_append]
      have hk66 : Kp [a, b] w6 (setBlk (setBlk w6 a (.cells #[sv, v6, .int .i64 f', .bool o'] 39)) b (.cells #[sv, v6, .int .i64 f', .bool o'] 39)) :=
        ((Kp.refl _ w6).setBlk (.inl (by simp)) _).setBlk (.inl (by simp)) _
      exact h6.keep hk66 fun y hy => by have := hne6 y hy; simp; omega
    · rcases List.mem_append.1 hy with h | h
      · exact .inl (by simp [h])
      · exact .inr (by have := hne6 y h; omega)
end Go.Proofs
