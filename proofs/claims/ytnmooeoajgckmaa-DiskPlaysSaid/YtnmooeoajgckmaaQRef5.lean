/- Part of the proof (text QRef5): an engine, rules or contracts of the functions; it states nothing of the claim by itself. -/
import Derived.Test.YtnmooeoajgckmaaQRef4
/- The document's disk: Flush, Crash and New. -/
set_option linter.unusedVariables false
set_option linter.unusedSimpArgs false
namespace Go.Proofs
open Go Go.Q
theorem one2p {a b : Value} (ha : one a = true) (hb : one b = true) : ∀ (i : Nat) (x : i < 2), one ([a, b] : List Value)[i] = true := by
  intro i hi
  match i, hi with
  | 0, _ => exact ha
  | 1, _ => exact hb
theorem crashL_over : ∀ (ks : List Int) (l : List (Nat × List UInt8)) (L : List (List UInt8)) (i : Nat), ks.length ≤ i → crashL (l.take i) ks L = crashL l ks L := by
  intro ks
  induction ks with
  | nil => intro l L i _; cases l <;> cases i <;> rfl
  | cons k ks ih =>
    intro l L i hi
    cases i with
    | zero => simp at hi
    | succ i =>
      cases l with
      | nil => rfl
      | cons x l => exact ih l _ i (by simpa using hi)
/-- in a loop over what was written: a struct at 'a', its list of sectors 'L' -/
structure LoopAt (w wi : World) (a b : Nat) (lv : Value) (f : Int) (o : Bool) (L : List (List UInt8)) (SS : List Nat) (sv : Value) (Si : List Nat) : Prop where
  kp : Kp [] w wi
  hA : wi.heap[a]? = some (.cells #[sv, lv, .int .i64 f, .bool o] 39)
  hB : wi.heap[b]? = some (.cells #[.slice none 0 0, .slice none 0 0, .int .i64 0, .bool false] 39)
  rows : RowsAt wi sv 1 (L.map strV) Si
  new : ∀ y ∈ Si, (y ∈ SS ∨ w.heap.size ≤ y) ∧ y ≠ a ∧ y ≠ b
theorem LoopAt.step {w wi w' : World} {a b : Nat} {lv : Value} {f : Int} {o : Bool} {L L' : List (List UInt8)} {SS : List Nat} {sv v' : Value} {Si S' : List Nat} (h : LoopAt w wi a b lv f o L SS sv Si)
    (ha : w.heap.size ≤ a) (hb : w.heap.size ≤ b) (hab : ¬ a = b) (hk : Kp [] wi w') (hr : RowsAt w' v' 1 (L'.map strV) S') (hS : ∀ y ∈ S', wi.heap.size ≤ y) :
    LoopAt w (setBlk w' a (.cells #[v', lv, .int .i64 f, .bool o] 39)) a b lv f o L' SS v' S' := by
  have hA' := hk.get h.hA (by simp)
  have hB' := hk.get h.hB (by simp)
  have l1 : a < wi.heap.size := live_of h.hA
  have l2 : b < wi.heap.size := live_of h.hB
  have hne : ∀ y ∈ S', y ≠ a ∧ y ≠ b := fun y hy => by have := hS y hy; omega
  have hka : Kp [a] w' (setBlk w' a (.cells #[v', lv, .int .i64 f, .bool o] 39)) := (Kp.refl _ w').setBlk (.inl (by simp)) _
  refine ⟨(h.kp.trans' hk).setBlk (.inr ha) _, heap_self (live_of hA'), by rw [heap_ne hab]; exact hB', hr.keep hka fun y hy => by simp; exact (hne y hy).1, fun y hy => ⟨.inr ?_, hne y hy⟩⟩
  have := hS y hy
  have := h.kp.size
  omega
theorem ref_Flush {w : World} {x : Value} {d : DK} {S : List Nat} (h : RefAt w x d S) (ok : d.Ok) (hl : d.l.length < 2 ^ 40) {K : Value → World → Prop}
    (hK : ∀ w' x' S', RefAt w' x' d.flush.1 S' → Kp [] w w' → (∀ y ∈ S', y ∈ S ∨ w.heap.size ≤ y) → K (.tuple #[x', .int .i64 d.flush.2]) w') : callG Try.prog 22 #[x] w K := by
  refine ref03_Flush_call ?_
  obtain ⟨sv, lv, SS, SL, rfl, hs, hlg, rfl⟩ := h
  simp only [ref03_Flush, ref03_Flush_s4]
  refine newG2 fun a b w1 ha hb hab hba hA hB la lb hk => ?_
  have hc : Value.cells (.agg (qc sv lv d)) = qc sv lv d := rfl
  rw [hc] at hA
  simp only [qc, zc39] at hA hB
  have hsv1 := rows_one hs
  have hlv1 := rows_one hlg
  simp [-getElem?_pos, -Array.getElem?_eq_getElem, -List.length_flatten, List.getElem?_cons_zero, List.getElem?_cons_succ, hA, ext4]
  unfold DK.flush at hK
  refine ref_burns (sv := sv) (lv := lv) (d := d) hsv1 hlv1 ⟨ok.f0, ok.f1⟩ fun w2 hk2 => ?_
  obtain ⟨b1, b2⟩ := burns_same d
  have hA2 := hk2.get hA (by simp)
  have hB2 := hk2.get hB (by simp)
  have la2 := live_of hA2
  have lb2 := live_of hB2
  have hkw2 : Kp [] w w2 := hk.trans' hk2
  cases hon : d.burns.2 with
  | false =>
    simp only [hon, Bool.false_eq_true, if_false] at hK
    have hkb2 : ∀ o o', Kp [] w (setBlk (setBlk w2 a o) b o') := fun o o' => (hkw2.setBlk (.inr ha) _).setBlk (.inr hb) _
    have := hK _ (.agg (qc sv lv d.burns.1)) (SS ++ SL) (ref_burned hs hlg (hkb2 (.cells (qc sv lv d.burns.1) 39) (.cells (qc sv lv d.burns.1) 39))) (hkb2 _ _) (fun y hy => .inl hy)
    simp only [qc] at this
    simp [-getElem?_pos, -Array.getElem?_eq_getElem, -List.length_flatten, List.getElem?_cons_zero, List.getElem?_cons_succ, qc, hA2, hB2, heap_self, heap_ne, hab, hba, la2, lb2, -Array.all_eq_true, lvS, spl4, one4, one_i, one_b, hsv1, hlv1, ext4]
    exact ⟨one4p hsv1 hlv1 rfl rfl, this⟩
  | true =>
    simp only [hon, if_true] at hK
    obtain ⟨f', hf'⟩ : ∃ f', f' = d.burns.1.fuse := ⟨_, rfl⟩
    obtain ⟨o', ho'⟩ : ∃ o', o' = d.burns.1.off := ⟨_, rfl⟩
    simp [-getElem?_pos, -Array.getElem?_eq_getElem, -List.length_flatten, List.getElem?_cons_zero, List.getElem?_cons_succ, qc, hA2, hB2, heap_self, heap_ne, hab, hba, la2, lb2, -Array.all_eq_true, lvS, spl4, one4, one_i, one_b, hsv1, hlv1, ext4]
    rw [← hf', ← ho']
    have hkw3 : Kp [] w (setBlk w2 a (.cells #[sv, lv, .int .i64 f', .bool o'] 39)) := hkw2.setBlk (.inr ha) _
    have hlt := hs.lt
    have h0 : LoopAt w (setBlk w2 a (.cells #[sv, lv, .int .i64 f', .bool o'] 39)) a b lv f' o' (applyAll d.sure (d.l.take 0)) SS sv SS :=
      ⟨hkw3, heap_self la2, by rw [heap_ne hab]; exact hB2, hs.keep hkw3 (by simp), fun y hy => ⟨.inl hy, by have := hlt y hy; omega, by have := hlt y hy; omega⟩⟩
    unfold ref03_Flush_s3 ref03_Flush_L2
    refine loop_inv (fun m xs wi => ∃ i svi Si, i ≤ d.l.length ∧ m = d.l.length - i ∧ xs = [.pointer (some ⟨a, 0, none⟩), .pointer (some ⟨b, 0, none⟩), .int .i64 (i : Nat)] ∧ LoopAt w wi a b lv f' o' (applyAll d.sure (d.l.take i)) SS svi Si)
      ?_ (m := d.l.length) ⟨0, sv, SS, by omega, rfl, rfl, h0⟩
    rintro m N xs wi ⟨i, svi, Si, hi, rfl, rfl, hL⟩ hN
    have hlgi := hlg.keep hL.kp (by simp)
    have hll : ∀ K : Value → Prop, lenL lv K = K (.int .i64 d.l.length) := by intro K; rw [hlgi.rd.lenL]; simp
    have hAi := hL.hA
    have hBi := hL.hB
    have lai := live_of hAi
    have lbi := live_of hBi
    simp only [ref03_Flush_L2F, ref03_Flush_b1]
    simp [-getElem?_pos, -Array.getElem?_eq_getElem, -List.length_flatten, List.getElem?_cons_zero, List.getElem?_cons_succ, hAi, hll]
    refine ⟨fun hlt => ?_, fun hge => ?_⟩
    · have hiw : IntKind.i64.wrap ((i : Int) + 1) = ((i + 1 : Nat) : Int) := by rw [w64 (by omega) (by omega)]; simp
      obtain ⟨bl2, T2, c2, hbl2, hheap2, hia2, hle2, _, hcell2⟩ := hlgi.at (i := i) (by simpa using hlt)
      have h20 : c2[i * 2]? = some (.int .i64 (d.l[i].1 : Nat)) := by
        have := hcell2 0 (by omega)
        simpa [wroteV] using this
      have h21 : c2[i * 2 + 1]? = some (.string (str d.l[i].2)) := by
        have := hcell2 1 (by omega)
        simpa [wroteV] using this
      simp [-getElem?_pos, -Array.getElem?_eq_getElem, -List.length_flatten, List.getElem?_cons_zero, List.getElem?_cons_succ, hia2, hheap2, h20, h21, hiw]
      have hok := ok.szl _ (List.getElem_mem hlt)
      have hlen := ok.len
      have hmost := ok.most
      refine ref_with (hL.rows.keep (Kp.refl [] wi).drew (by simp)) (p := d.l[i].1) (by rw [applyAll_len]; omega) (by rw [applyAll_len]; omega) d.l[i].2 fun v' w' S' hr' hk' hS' => ?_
      have hk'' : Kp [] wi w' := (Kp.refl [] wi).drew.trans' hk'
      have hA' := hk''.get hAi (by simp)
      have hv1 := rows_one hr'
      have hstep := hL.step ha hb hab hk'' hr' hS'
      have htk : (applyAll d.sure (d.l.take i)).set d.l[i].1 d.l[i].2 = applyAll d.sure (d.l.take (i + 1)) := by rw [List.take_succ_eq_append_getElem hlt, applyAll_snoc]
      rw [htk] at hstep
      simp [-getElem?_pos, -Array.getElem?_eq_getElem, -List.length_flatten, List.getElem?_cons_zero, List.getElem?_cons_succ, hA', hv1, live_of hA']
      exact hN (d.l.length - (i + 1)) _ _ (by omega) ⟨i + 1, v', S', by omega, rfl, rfl, hstep⟩
    · have hie : i = d.l.length := by omega
      subst hie
      have hsvi := rows_one hL.rows
      unfold ref03_Flush_s0
      have hend : ∀ o o', Kp [] w (setBlk (setBlk wi a o) b o') := fun o o' => (hL.kp.setBlk (.inr ha) _).setBlk (.inr hb) _
      have hrows := hL.rows
      rw [List.take_length] at hrows
      have hfin := hK (setBlk (setBlk wi a (.cells #[svi, .slice none 0 0, .int .i64 f', .bool o'] 39)) b (.cells #[svi, .slice none 0 0, .int .i64 f', .bool o'] 39)) (.agg #[svi, .slice none 0 0, .int .i64 f', .bool o']) (Si ++ [])
        ⟨svi, .slice none 0 0, Si, [], by rw [hf', ho']; rfl, by
          have hk66 : Kp [a, b] wi (setBlk (setBlk wi a (.cells #[svi, .slice none 0 0, .int .i64 f', .bool o'] 39)) b (.cells #[svi, .slice none 0 0, .int .i64 f', .bool o'] 39)) :=
            ((Kp.refl _ wi).setBlk (.inl (by simp)) _).setBlk (.inl (by simp)) _
          exact hrows.keep hk66 fun y hy => by have := hL.new y hy; simp; exact ⟨this.2.1, this.2.2⟩, .inl ⟨rfl, rfl, rfl⟩, rfl⟩ (hend _ _) (fun y hy => by
            have := (hL.new y (by simpa using hy)).1
            rcases this with h | h
            · exact .inl (by simp [h])
            · exact .inr h)
      simp [-getElem?_pos, -Array.getElem?_eq_getElem, -List.length_flatten, List.getElem?_cons_zero, List.getElem?_cons_succ, hAi, hBi, heap_self, heap_ne, hab, hba, lai, lbi, -Array.all_eq_true, lvS, spl4, one4, one_i, one_b, hsvi, ext4]
      exact hfin
theorem ref_Crash {w : World} {x : Value} {d : DK} {S : List Nat} (h : RefAt w x d S) (ok : d.Ok) (hl : d.l.length < 2 ^ 40) {kv : Value} {ks : List Int} {SK : List Nat} (hks : IntsAt w kv ks SK) {K : Value → World → Prop}
    (hK : ∀ w' x' S', RefAt w' x' (d.crash ks) S' → Kp [] w w' → (∀ y ∈ S', y ∈ S ∨ w.heap.size ≤ y) → K x' w') : callG Try.prog 25 #[x, kv] w K := by
  refine ref03_Crash_call ?_
  obtain ⟨sv, lv, SS, SL, rfl, hs, hlg, rfl⟩ := h
  simp only [ref03_Crash, ref03_Crash_s5]
  refine newG2 fun a b w1 ha hb hab hba hA hB la lb hk => ?_
  have hc : Value.cells (.agg (qc sv lv d)) = qc sv lv d := rfl
  rw [hc] at hA
  simp only [qc, zc39] at hA hB
  have hlv1 := rows_one hlg
  have hlt := hs.lt
  have h0 : LoopAt w w1 a b lv d.fuse d.off (crashL (d.l.take 0) ks d.sure) SS sv SS :=
    ⟨hk, hA, hB, hs.keep hk (by simp), fun y hy => ⟨.inl hy, by have := hlt y hy; omega, by have := hlt y hy; omega⟩⟩
  have hend : ∀ (i : Nat) (svi : Value) (Si : List Nat) (wi : World), LoopAt w wi a b lv d.fuse d.off (crashL (d.l.take i) ks d.sure) SS svi Si → crashL (d.l.take i) ks d.sure = crashL d.l ks d.sure →
      ref03_Crash_s0 K (.pointer (some ⟨a, 0, none⟩)) (.pointer (some ⟨b, 0, none⟩)) wi := by
    intro i svi Si wi hL he
    have hAi := hL.hA
    have hBi := hL.hB
    have lbi := live_of hBi
    have hsvi := rows_one hL.rows
    have hrows := hL.rows
    rw [he] at hrows
    have hkb : ∀ o, Kp [] w (setBlk wi b o) := fun o => hL.kp.setBlk (.inr hb) _
    have hkb' : ∀ o, Kp [b] wi (setBlk wi b o) := fun o => (Kp.refl _ wi).setBlk (.inl (by simp)) _
    have hfin := hK (setBlk wi b (.cells #[svi, .slice none 0 0, .int .i64 (-1), .bool false] 39)) (.agg #[svi, .slice none 0 0, .int .i64 (-1), .bool false]) (Si ++ [])
      ⟨svi, .slice none 0 0, Si, [], rfl, hrows.keep (hkb' _) fun y hy => by have := hL.new y hy; simp; exact this.2.2, .inl ⟨rfl, rfl, rfl⟩, rfl⟩ (hkb _) (fun y hy => by
        have := (hL.new y (by simpa using hy)).1
        rcases this with h | h
        · exact .inl (by simp [h])
        · exact .inr h)
    unfold ref03_Crash_s0
    simp [-getElem?_pos, -Array.getElem?_eq_getElem, -List.length_flatten, List.getElem?_cons_zero, List.getElem?_cons_succ, hAi, bld39 hsvi one_i]
    simp [-getElem?_pos, -Array.getElem?_eq_getElem, -List.length_flatten, List.getElem?_cons_zero, List.getElem?_cons_succ, hBi, heap_self, heap_ne, hab, hba, lbi, -Array.all_eq_true, lvS, spl4, one4, one_i, one_b, hsvi, ext4]
    exact hfin
  unfold ref03_Crash_s4 ref03_Crash_L3
  refine loop_inv (fun m xs wi => ∃ i svi Si, i ≤ d.l.length ∧ i ≤ ks.length ∧ m = d.l.length - i ∧ xs = [kv, .pointer (some ⟨a, 0, none⟩), .pointer (some ⟨b, 0, none⟩), .int .i64 (i : Nat)] ∧ LoopAt w wi a b lv d.fuse d.off (crashL (d.l.take i) ks d.sure) SS svi Si)
    ?_ (m := d.l.length) ⟨0, sv, SS, by omega, by omega, rfl, rfl, h0⟩
  rintro m N xs wi ⟨i, svi, Si, hi, hik, rfl, rfl, hL⟩ hN
  have hlgi := hlg.keep hL.kp (by simp)
  have hll : ∀ K : Value → Prop, lenL lv K = K (.int .i64 d.l.length) := by intro K; rw [hlgi.rd.lenL]; simp
  have hksi := hks.keep hL.kp (by simp)
  obtain ⟨ka, kc, hkv⟩ := hksi.len
  have hkl : ∀ K : Value → Prop, lenL kv K = K (.int .i64 ks.length) := by intro K; rw [hkv]; rfl
  have hAi := hL.hA
  have hBi := hL.hB
  have lai := live_of hAi
  simp only [ref03_Crash_L3F, ref03_Crash_s2]
  simp [-getElem?_pos, -Array.getElem?_eq_getElem, -List.length_flatten, List.getElem?_cons_zero, List.getElem?_cons_succ, hAi, hll, hkl]
  refine ⟨fun hlt => ⟨fun hkt => ?_, fun hge => ?_⟩, fun hge => ?_⟩
  · have hiw : IntKind.i64.wrap ((i : Int) + 1) = ((i + 1 : Nat) : Int) := by rw [w64 (by omega) (by omega)]; simp
    obtain ⟨bl2, T2, c2, hbl2, hheap2, hia2, hle2, hext2, hcell2⟩ := hlgi.at (i := i) (by simpa using hlt)
    obtain ⟨bk, ok', ck, Tk, frk, hbk, hkheap, hkia, hkc⟩ := hksi.at hkt
    obtain ⟨q, hq⟩ : ∃ q, q = ks.getD i 0 := ⟨_, rfl⟩
    rw [← hq] at hkc
    have hki : ks[i]? = some q := by rw [hq]; simp [List.getD, hkt]
    obtain ⟨k, hkk⟩ : ∃ k, k = (max 0 (min q 32)).toNat := ⟨_, rfl⟩
    have hkq : max 0 (min q 32) = (k : Int) := by omega
    have hk32 : k ≤ 32 := by omega
    have hokl := ok.szl _ (List.getElem_mem hlt)
    have hcok := crashL_ok (n := d.now.length) (ks := ks) (l := d.l.take i) ok.sz1 ok.len (fun x hx => ok.szl x (List.mem_of_mem_take hx))
    obtain ⟨L, hLd⟩ : ∃ L, L = crashL (d.l.take i) ks d.sure := ⟨_, rfl⟩
    rw [← hLd] at hcok hL
    have hpL : d.l[i].1 < L.length := by rw [hcok.2]; exact hokl.1
    have hsz : (L[d.l[i].1]).length = 32 := hcok.1 _ (List.getElem_mem hpL)
    have hmost := ok.most
    have hLs : crashL (d.l.take (i + 1)) ks d.sure = L.set d.l[i].1 (d.l[i].2.take k ++ (L[d.l[i].1]).drop k) := by
      rw [take_snoc hlt, crashL_snoc, ← hLd]
      have : (d.l.take i).length = i := by simp; omega
      rw [this, hki]
      simp only [crash1, ← hkk]
      congr 2
      simp [List.getD, hpL]
    -- the one that was written
    obtain ⟨w2, hw2⟩ : ∃ w2, w2 = wi.alloc (.cells #[.int .i64 (d.l[i].1 : Nat), .string (str d.l[i].2)] 97) := ⟨_, rfl⟩
    have hk2 : Kp [] wi w2 := by rw [hw2]; exact (Kp.refl [] wi).alloc _
    have hC2 : w2.heap[wi.heap.size]? = some (.cells #[.int .i64 (d.l[i].1 : Nat), .string (str d.l[i].2)] 97) := by rw [hw2]; exact heap_new
    have hA2 := hk2.get hAi (by simp)
    have hspl : ∀ x y : Value, splice #[.int .i64 0, .string ⟨#[]⟩] 0 #[x, y] = #[x, y] := fun _ _ => rfl
    have hrow : (List.map wroteV d.l)[i]'(by simpa using hlt) = [.int .i64 (d.l[i].1 : Nat), .string (str d.l[i].2)] := by simp [wroteV]
    rw [hrow] at hext2
    obtain ⟨bl3, T3, c3, hbl3, hheap3, hia3, hle3, hext3, hcell3⟩ := hL.rows.at (i := d.l[i].1) (by simpa using hpL)
    have hc30 : c3[d.l[i].1]? = some (.string (str (L[d.l[i].1]))) := by
      have := hcell3 0 (by omega)
      simpa [strV] using this
    have hheap3' := hk2.get hheap3 (by simp)
    unfold ref03_Crash_s1
    simp [-getElem?_pos, -Array.getElem?_eq_getElem, -List.length_flatten, List.getElem?_cons_zero, List.getElem?_cons_succ, hkia, hkheap, hkc, hkq, hAi, hia2, hheap2, hle2, hext2, zc97, heap_new, hspl]
    refine ⟨one2p rfl rfl, ?_⟩
    rw [← hw2]
    simp [-getElem?_pos, -Array.getElem?_eq_getElem, -List.length_flatten, List.getElem?_cons_zero, List.getElem?_cons_succ, hA2, hC2, hk32, hokl.2, hia3, hheap3', hc30, hsz, bq_sadd, str_extract]
    have ht32 : List.take 32 (L[d.l[i].1]) = L[d.l[i].1] := List.take_of_length_le (by omega)
    rw [ht32]
    refine ref_with ((hL.rows.keep hk2 (by simp)).keep (Kp.refl [] w2).drew (by simp)) (p := d.l[i].1) hpL (by omega) _ fun v' w' S' hr' hk' hS' => ?_
    have hk'' : Kp [] wi w' := hk2.trans' ((Kp.refl [] w2).drew.trans' hk')
    have hA' := hk''.get hAi (by simp)
    have hv1 := rows_one hr'
    have hs2 := hk2.size
    have hstep := hL.step ha hb hab hk'' hr' fun y hy => by
      have h := hS' y hy
      simp only [heap_drew] at h
      omega
    rw [← hLs] at hstep
    simp [-getElem?_pos, -Array.getElem?_eq_getElem, -List.length_flatten, List.getElem?_cons_zero, List.getElem?_cons_succ, hA', hv1, live_of hA', hiw]
    exact hN (d.l.length - (i + 1)) _ _ (by omega) ⟨i + 1, v', S', by omega, by omega, rfl, rfl, hstep⟩
  · exact hend i svi Si wi hL (by
exact crashL_over _ _ _ _ (by omega))
  · exact hend i svi Si wi hL (by
      have : i = d.l.length := by omega
      rw [this, List.take_length])
theorem ref_New_bad {w : World} {n : Int} (hn : n < 1 ∨ 4096 < n) {K : Value → World → Prop}
    (hK : ∀ w', Kp [] w w' → K (.tuple #[.agg #[.slice none 0 0, .slice none 0 0, .int .i64 0, .bool false], .int .i64 1]) w') : callG Try.prog 19 #[.int .i64 n] w K := by
  refine ref03_New_call ?_
  simp only [ref03_New, ref03_New_s5]
  rw [newG_k]
  obtain ⟨a, hae⟩ : ∃ a, a = w.heap.size := ⟨_, rfl⟩
  obtain ⟨w1, hw1⟩ : ∃ w1, w1 = w.alloc (.cells (zc Try.prog 39) 39) := ⟨_, rfl⟩
  have hk : Kp [] w w1 := by rw [hw1]; exact (Kp.refl [] w).alloc _
  have hA : w1.heap[a]? = some (.cells #[.slice none 0 0, .slice none 0 0, .int .i64 0, .bool false] 39) := by rw [hw1, hae, ← zc39]; exact heap_new
  rw [← hae, ← hw1]
  have la := live_of hA
  have ha : w.heap.size ≤ a := by omega
  simp only [bld39z]
  simp [-getElem?_pos, -Array.getElem?_eq_getElem, -List.length_flatten, List.getElem?_cons_zero, List.getElem?_cons_succ, hA, la, -Array.all_eq_true, lvS, spl4, one4, one_i, one_b]
  refine ⟨fun h1 => hK _ (hk.setBlk (.inr ha) _), fun h1 => ⟨fun h2 => hK _ (hk.setBlk (.inr ha) _), fun h2 => ?_⟩⟩
  exfalso; omega
theorem u32z : u8c (List.replicate 32 0) = List.replicate 32 (Value.int .u8 0) := by simp [u8c]
theorem ref_New {w : World} {n : Nat} (h1 : 1 ≤ n) (h2 : n ≤ 4096) {K : Value → World → Prop}
    (hK : ∀ w' x' S', RefAt w' x' (DK.fresh n) S' → Kp [] w w' → (∀ y ∈ S', w.heap.size ≤ y) → K (.tuple #[x', .int .i64 0]) w') : callG Try.prog 19 #[.int .i64 n] w K := by
  refine ref03_New_call ?_
  simp only [ref03_New, ref03_New_s5]
  rw [newG_k]
  obtain ⟨a, hae⟩ : ∃ a, a = w.heap.size := ⟨_, rfl⟩
  obtain ⟨w1, hw1⟩ : ∃ w1, w1 = w.alloc (.cells (zc Try.prog 39) 39) := ⟨_, rfl⟩
  have hk : Kp [] w w1 := by rw [hw1]; exact (Kp.refl [] w).alloc _
  have hA : w1.heap[a]? = some (.cells #[.slice none 0 0, .slice none 0 0, .int .i64 0, .bool false] 39) := by rw [hw1, hae, ← zc39]; exact heap_new
  rw [← hae, ← hw1]
  have la : a < w1.heap.size := live_of hA
  have ha : w.heap.size ≤ a := by omega
  have hn1 : ¬ (n : Int) < 1 := by omega
  have hn2 : ¬ (n : Int) > 4096 := by omega
  have hrep : ∀ m, rep (zc Try.prog 9) m = (List.replicate m (Value.string ⟨#[]⟩)).toArray := by
    intro m
    rw [zc9]
    exact rep_replicate (.string ⟨#[]⟩) 1 m (by omega)
  simp only [bq_lss, bq_gtr, bV_b, hn1, hn2]
  refine ⟨fun h => by simp at h, fun _ => ⟨fun h => by simp at h, fun _ => ?_⟩⟩
  unfold ref03_New_s4
  obtain ⟨o, hoe⟩ : ∃ o, o = w1.heap.size := ⟨_, rfl⟩
  obtain ⟨z, hz⟩ : ∃ z, z = Value.string (str (List.replicate 32 0)) := ⟨_, rfl⟩
  have hcells : ∀ (i : Nat), i < n → (List.replicate i z ++ List.replicate (n - i) (Value.string ⟨#[]⟩)).set i z = List.replicate (i + 1) z ++ List.replicate (n - (i + 1)) (Value.string ⟨#[]⟩) := by
    intro i hi
    have : n - i = (n - (i + 1)) + 1 := by omega
    rw [this, List.replicate_succ, List.replicate_succ']
    simp
  obtain ⟨w2, hw2⟩ : ∃ w2, w2 = w1.alloc (.cells (List.replicate n (Value.string ⟨#[]⟩)).toArray 9) := ⟨_, rfl⟩
  have hk2 : Kp [] w1 w2 := by rw [hw2]; exact (Kp.refl [] w1).alloc _
  have hO : w2.heap[o]? = some (.cells (List.replicate n (Value.string ⟨#[]⟩)).toArray 9) := by rw [hw2, hoe]; exact heap_new
  have hmk : ∀ K : Value → World → Prop, mkG 9 1 16 (zc Try.prog 9) (.int .i64 n) (.int .i64 n) w1 K = K (.slice (some ⟨o, 0, none⟩) n n) w2 := by
    intro K
    have : (0 ≤ (n : Int) ∧ (n : Int) ≤ n ∧ (16 : Int) * n ≤ 2 ^ 48 ∧ (n : Int) < 2 ^ 63) := by omega
    simp [mkG, hrep, hw2, hoe]
    intro _
    omega
  rw [hmk]
  unfold ref03_New_s3 ref03_New_L2
  have hoa : ¬ o = a := by omega
  have hko : w.heap.size ≤ o := by have := hk.size; omega
  refine loop_inv (fun m xs wi => ∃ i, i ≤ n ∧ m = n - i ∧ xs = [.int .i64 n, .pointer (some ⟨a, 0, none⟩), .slice (some ⟨o, 0, none⟩) n n, .int .i64 (i : Nat)] ∧ Kp [] w wi ∧
    wi.heap[a]? = some (.cells #[.slice none 0 0, .slice none 0 0, .int .i64 0, .bool false] 39) ∧ wi.heap[o]? = some (.cells (List.replicate i z ++ List.replicate (n - i) (Value.string ⟨#[]⟩)).toArray 9))
    ?_ (m := n) ⟨0, by omega, rfl, rfl, hk.trans' hk2, hk2.get hA (by simp), by simpa using hO⟩
  rintro m N xs wi ⟨i, hi, rfl, rfl, hki, hAi, hOi⟩ hN
  have loi : o < wi.heap.size := live_of hOi
  have lai : a < wi.heap.size := live_of hAi
  simp only [ref03_New_L2F, ref03_New_b1, bq_lss, bV_b]
  refine ⟨fun hlt => ?_, fun hge => ?_⟩
  · have hlt : i < n := by simp at hlt; omega
    have hiw : IntKind.i64.wrap ((i : Int) + 1) = ((i + 1 : Nat) : Int) := by rw [w64 (by omega) (by omega)]; simp
    have hlen : (u8c (List.replicate 32 0)).length = 32 := by simp
    have ht : List.take 32 (u8c (List.replicate 32 0)) = u8c (List.replicate 32 0) := List.take_of_length_le (by simp)
    have hb := bytesOf_u8c (List.replicate 32 0)
    obtain ⟨w3, hw3⟩ : ∃ w3, w3 = wi.alloc (.cells (u8c (List.replicate 32 0)).toArray 5) := ⟨_, rfl⟩
    have hk3 : Kp [] wi w3 := by rw [hw3]; exact (Kp.refl [] wi).alloc _
    have hm2 : ∀ K : Value → World → Prop, (mkG 5 1 1 (zc Try.prog 5) (.int .i64 32) (.int .i64 32) wi fun t w => cvBS t w fun u => K u w) = K z w3 := by
      intro K
      obtain ⟨C, hC⟩ : ∃ C, C = u8c (List.replicate 32 0) := ⟨_, rfl⟩
      rw [← hC] at hlen ht hb hw3
      simp [-getElem?_pos, -Array.getElem?_eq_getElem, -List.reduceReplicate, mkG, rep5, cvBS, heap_new, ← hC, hlen, ht, hb, hw3, hz, str]
    obtain ⟨K', hK'⟩ : ∃ K' : Value → World → Prop, K' = fun t23 w => ia 1 (.slice (some ⟨o, 0, none⟩) n n) (.int .i64 i) fun t24 => st1 t24 t23 w fun w => qG Try.prog (bq .add 3 (.tmp 18) (.const (.int .i64 1)) (.int .i64 i) (.int .i64 1)) w fun t19 => N [.int .i64 n, .pointer (some ⟨a, 0, none⟩), .slice (some ⟨o, 0, none⟩) n n, t19] w := ⟨_, rfl⟩
    have h5 := hm2 K'
    rw [hK'] at h5
    rw [h5]
    have hO3 := hk3.get hOi (by simp)
    have hA3 := hk3.get hAi (by simp)
    have hlC : (List.replicate i z ++ List.replicate (n - i) (Value.string ⟨#[]⟩)).length = n := by simp; omega
    have hset := hcells i hlt
    obtain ⟨C, hC⟩ : ∃ C, C = List.replicate i z ++ List.replicate (n - i) (Value.string ⟨#[]⟩) := ⟨_, rfl⟩
    rw [← hC] at hO3 hset hlC
    have hoz : one z = true := by rw [hz]; rfl
    have hilt : (i : Int) < n := by omega
    simp [-getElem?_pos, -Array.getElem?_eq_getElem, -List.length_flatten, List.getElem?_cons_zero, List.getElem?_cons_succ, hO3, hlC, hoz, hiw, hilt, hlt, hset]
    refine hN (n - (i + 1)) _ _ (by omega) ⟨i + 1, by omega, rfl, rfl, (hki.trans' hk3).setBlk (.inr hko) _, by rw [heap_ne hoa]; exact hA3, heap_self (live_of hO3)⟩
  · have hie : i = n := by simp at hge; omega
    subst hie
    have hkb : ∀ ob, Kp [] w (setBlk wi a ob) := fun ob => hki.setBlk (.inr ha) _
    have hfin := hK (setBlk wi a (.cells #[.slice (some ⟨o, 0, none⟩) i i, .slice none 0 0, .int .i64 (-1), .bool false] 39)) (.agg #[.slice (some ⟨o, 0, none⟩) i i, .slice none 0 0, .int .i64 (-1), .bool false]) ([o] ++ [])
      ⟨.slice (some ⟨o, 0, none⟩) i i, .slice none 0 0, [o], [], rfl, by
        have hF : ((DK.fresh i).sure.map strV).flatten = List.replicate i z := by
          have h1 : (DK.fresh i).sure.map strV = List.replicate i [z] := by simp [DK.fresh, secs0, strV, hz]
          rw [h1]; simp
        have hL : ((DK.fresh i).sure.map strV).length = i := by simp [DK.fresh, secs0]
        refine .inr ⟨o, (DK.fresh i).sure.map strV, 9, by rw [hL], rfl, ?_, by simp [strV], List.take_length, by omega⟩
        rw [heap_ne (fun h => hoa h.symm), hOi, hF]
        simp, .inl ⟨rfl, rfl, rfl⟩, rfl⟩ (hkb _) (fun y hy => by simp at hy; omega)
    simp only [ref03_New_s0, bld39 (one_sl) one_i]
    simp [-getElem?_pos, -Array.getElem?_eq_getElem, -List.length_flatten, List.getElem?_cons_zero, List.getElem?_cons_succ, hAi, heap_self, live_of hAi, -Array.all_eq_true, lvS, spl4, one4, one_i, one_b]
    exact hfin
end Go.Proofs
