/- Part of the proof (L4): an engine, rules or contracts of the functions; it states nothing of the claim by itself. -/
import Derived.Test.YtcekhmkhagakiaaL3
import Derived.Test.YtcekhmkhagakiaaL1

/- Layer 7: how many there would be; a hold is over. -/
set_option linter.unusedVariables false
set_option linter.unusedSimpArgs false
namespace Go.Proofs
open Go Go.Q
section
variable {w0 w : World} {x : Nat} {l : LV} {S : List Nat}
theorem more_spec (h : WorkAt w0 w x l S) (hf : FitS l.st) (hl : l.st.length < 2 ^ 20) (sku loc : List UInt8) {n : Int} (hn : rngI n) {K : Value → World → Prop}
    (hK : ∀ w', Kp [] w w' → K (.tuple #[.int .i64 (moreL l sku loc n).1, .int .i64 (moreL l sku loc n).2]) w') :
    callG Try.prog 107 #[.pointer (some ⟨x, 0, none⟩), keyV sku loc, .int .i64 n] w K := by
  refine ledger_work_more_call ?_
  unfold ledger_work_more ledger_work_more_s0
  refine argBox (cs := [.string (str sku), .string (str loc)]) fun p w1 hp hh1 hk1 => ?_
  have h1 := (h.keep hk1).keep kp_drew
  obtain ⟨v, hld, hv⟩ := h1.ld
  have hp1 := kp_drew.get hh1 (by simp)
  simp only [nk_p, fa_p, Nat.add_zero, Nat.zero_add]
  rw [hld, ldF hp1 (j := 0) (x := .string (str sku)) rfl, ldF hp1 (j := 1) (x := .string (str loc)) rfl]
  refine Find_spec7 hv (by omega) sku loc fun w2 hk2 => ?_
  have hr := fits_rng.1 (hf sku loc).1
  unfold sA
  simp [-getElem?_pos, -Array.all_eq_true, -Array.getElem?_eq_getElem, -List.length_flatten, List.getElem?_cons_zero, List.getElem?_cons_succ, ]
  refine numAdd_spec hr hn ?_
  simp [-getElem?_pos, -Array.all_eq_true, -Array.getElem?_eq_getElem, -List.length_flatten, List.getElem?_cons_zero, List.getElem?_cons_succ, ]
  exact hK w2 ((hk1.trans' kp_drew).trans' hk2)
theorem over_spec (h : WorkAt w0 w x l S) (hs : Sorted l.st) (hl : l.st.length < 2 ^ 20) (hlh : l.ho.length < 2 ^ 20) (hlm : l.mo.length < 2 ^ 20) (o : OpV) (hid : 1 ≤ o.id) {K : Value → World → Prop}
    (hK : ∀ w' S', WorkAt w0 w' x (overW l o).1 S' → Kp S w w' → (∀ q ∈ S', q ∈ S ∨ w.heap.size ≤ q) → K (.int .i64 (overW l o).2) w') :
    callG Try.prog 110 #[.pointer (some ⟨x, 0, none⟩), .agg (opC o).toArray] w K := by
  refine ledger_work_over_call ?_
  unfold ledger_work_over ledger_work_over_s1
  have hlt := h.lt
  refine argBox (cs := opC o) fun y w1 hy hh1 hk1 => ?_
  have hyS : y ∉ S := fun hm => by have := hlt y hm; omega
  have h1 := (h.keep hk1).keep kp_drew
  have hy1 := kp_drew.get hh1 (by simp)
  have k01 : Kp [] w w1.drew := hk1.trans' kp_drew
  obtain ⟨W, hW⟩ : ∃ W, W = w1.drew := ⟨_, rfl⟩
  rw [← hW] at h1 hy1 k01 ⊢
  obtain ⟨b, T, r1, hT, hxT, hld, hin, hst⟩ := h1.focusB
  obtain ⟨ba, bc, hbv, _⟩ := r1.len
  have hlen : ∀ K : Value → Prop, lenL b K = K (.int .i64 l.ho.length) := fun K => by rw [hbv, lenL_s]; simp
  have h71 : (o.id > l.ho.length ∨ (holdAt l o.id).st ≠ 0) → K (.int .i64 71) W := by
    intro e
    have e2 : overW l o = (l, 71) := by unfold overW; rw [if_pos e]
    rw [e2] at hK
    exact hK W S h1 (k01.mono (by simp)) fun q hq => .inl hq
  simp only [nk_p, fa_p, Nat.add_zero, Nat.zero_add]
  rw [ldF hy1 (j := 5) (x := .int .i64 o.id) rfl, hld _ (Kp.refl _ _), hlen]
  simp only [bq_gtr, bV_b, decide_eq_true_eq, decide_eq_false_iff_not]
  refine ⟨fun e => h71 (.inl (by omega)), fun e1 => ?_⟩
  obtain ⟨k, hk⟩ : ∃ k, k = (o.id - 1).toNat := ⟨_, rfl⟩
  have hiw : IntKind.i64.wrap (o.id - 1) = (k : Nat) := by rw [w64 (by omega) (by omega)]; omega
  have hkl : k < l.ho.length := by omega
  have hg : holdAt l o.id = l.ho[k] := by simp only [holdAt, ← hk, List.getD, List.getElem?_eq_getElem hkl, Option.getD_some]
  obtain ⟨bl, hbl, hia, hrd, hwr⟩ := r1.updK hkl
  obtain ⟨hh, hhd⟩ : ∃ hh, hh = l.ho[k] := ⟨_, rfl⟩
  rw [← hhd] at hrd hwr hg
  rw [hld _ (Kp.refl _ _), ldF hy1 (j := 5) (x := .int .i64 o.id) rfl]
  simp only [bq_sub, hiw]
  rw [hia]
  simp only [fa_p]
  rw [hrd _ (Kp.refl _ _) 4 (.int .i64 hh.st) rfl]
  simp only [bq_neq, bV_b, decide_eq_true_eq, decide_eq_false_iff_not]
  refine ⟨fun e => h71 (.inr (by rw [hg]; exact e)), fun e2 => ?_⟩
  unfold ledger_work_over_s0
  have kd1 : Kp [] W W.drew := kp_drew
  have kd2 : Kp [] W W.drew.drew := kp_drew.trans' kp_drew
  simp only [nk_p, fa_p, Nat.add_zero, Nat.zero_add]
  rw [hld _ (kd1.mono (by simp)), ldF (kd1.get hy1 (by simp)) (j := 5) (x := .int .i64 o.id) rfl]
  simp only [bq_sub, hiw]
  rw [hia]
  simp only [nk_p, fa_p]
  rw [hrd _ kd2 1 (.string (str hh.sku)) rfl, hrd _ kd2 2 (.string (str hh.loc)) rfl]
  simp [-getElem?_pos, -Array.all_eq_true, -Array.getElem?_eq_getElem, -List.length_flatten, List.getElem?_cons_zero, List.getElem?_cons_succ, zcPl, bld_done, bld_if, offAt, putAt, -ld1_p, -st1_p, -ldn_p, -stn_p, -newG_k]
  rw [newG_k]
  obtain ⟨p, hp⟩ : ∃ p, p = W.drew.drew.heap.size := ⟨_, rfl⟩
  obtain ⟨W3, hW3⟩ : ∃ W3, W3 = W.drew.drew.alloc (.cells [.string (str []), .string (str [])].toArray 119) := ⟨_, rfl⟩
  have k3 : Kp [] W W3 := by rw [hW3]; exact kd2.alloc _
  have hp3 : W3.heap[p]? = some (.cells [.string (str []), .string (str [])].toArray 119) := by rw [hW3, hp]; exact heap_new
  rw [← hW3, ← hp]
  rw [hrd _ k3 2 (.string (str hh.loc)) rfl, hrd _ k3 1 (.string (str hh.sku)) rfl]
  refine ⟨rfl, rfl, ?_⟩
  rw [stAll (k := 2) hp3 rfl rfl (by simp [one])]
  have hWl : W.heap.size ≤ p := by rw [hp]; exact Nat.le_refl _
  obtain ⟨W4, hW4⟩ : ∃ W4, W4 = setBlk W3 p (.cells #[.string (str hh.sku), .string (str hh.loc)] 119) := ⟨_, rfl⟩
  have hp4 : W4.heap[p]? = some (.cells #[.string (str hh.sku), .string (str hh.loc)] 119) := by rw [hW4]; exact heap_self (live_of hp3)
  have k4 : Kp [] W W4 := by rw [hW4]; exact k3.setBlk (.inr hWl) _
  rw [← hW4]
  have hy4 := k4.get hy1 (by simp)
  rw [ldF hy4 (j := 0) (x := .int .i64 o.k) rfl]
  have hS1 := h1.lt
  have hpS : p ∉ S := fun hm => by have := hS1 p hm; omega
  have hset : ∀ n : Int, l.ho.set k { hh with st := n } = (stateL l k n).ho := fun n => by simp [stateL, List.getD, hkl, hhd]
  have eO : overW l o = if o.k = 4 then (turnL (stateL l k 2) hh.sku hh.loc 0 (w64i (-hh.q)), 0) else (moveW (stateL l k 1) hh.sku hh.loc (w64i (-hh.q)) (w64i (-hh.q)) o.k hh.id, 0) := by
    unfold overW
    rw [if_neg (by rw [hg]; omega), hg, ← hk]
  have hst : ∀ n w5, Kp T W4 w5 → RowsAt w5 b 6 ((l.ho.set k { hh with st := n }).map hC) T → WorkAt w0 w5 x (stateL l k n) S ∧ Kp S w w5 := by
    intro n w5 k5 r5
    have := hin w5 _ ((k4.mono (by simp)).trans' k5) r5
    rw [hset n] at this
    exact ⟨this, (k01.mono (by simp)).trans' (((k4.mono (by simp)).trans' k5).mono fun q hq _ => hT q hq)⟩
  have hsz := k01.size
  have hsz4 := k4.size
  simp only [bq_eql, bV_b, decide_eq_true_eq, decide_eq_false_iff_not]
  refine ⟨fun e4 => ?_, fun e4 => ?_⟩
  · rw [eO, if_pos e4] at hK
    refine hwr _ k4 4 (by omega) _ { hh with st := 2 } rfl rfl _ fun w5 k5 r5 => ?_
    obtain ⟨h5, k05⟩ := hst 2 w5 k5 r5
    have h5d := h5.keep kp_drew
    have hp5 := kp_drew.get (k5.get hp4 fun hm => hpS (hT p hm)) (by simp)
    have hsz5 := k5.size
    have r5d := r5.keep (S' := []) (w' := w5.drew) kp_drew (by simp)
    obtain ⟨bl', g1, g2, g3, _⟩ := r5d.updK (i := k) (by simpa using hkl)
    have : bl' = bl := by rw [hbl] at g1; simpa using g1.symm
    subst this
    simp only [List.getElem_set_self] at g3
    rw [ldPl hp5, g3 _ (Kp.refl _ _) 3 (.int .i64 hh.q) rfl, neg_of]
    refine turned_spec h5d hs hl hh.sku hh.loc 0 (w64i (-hh.q)) fun w6 S6 h6 k6 hS6 => ?_
    exact hK w6 S6 h6 ((k05.trans' (kp_drew.mono (by simp))).trans' k6) fun q hq => (hS6 q hq).imp id fun e => by have : w5.drew.heap.size = w5.heap.size := rfl; omega
  · rw [eO, if_neg e4] at hK
    refine hwr _ k4 4 (by omega) _ { hh with st := 1 } rfl rfl _ fun w5 k5 r5 => ?_
    obtain ⟨h5, k05⟩ := hst 1 w5 k5 r5
    have h5d := h5.keep kp_drew
    have hp5 := kp_drew.get (k5.get hp4 fun hm => hpS (hT p hm)) (by simp)
    have hyW := lt_of_blk hy1
    have hy5 := kp_drew.get (k5.get hy4 fun hm => hyS (hT y hm)) (by simp)
    have hsz5 := k5.size
    have r5d := r5.keep (S' := []) (w' := w5.drew) kp_drew (by simp)
    obtain ⟨bl', g1, g2, g3, _⟩ := r5d.updK (i := k) (by simpa using hkl)
    have : bl' = bl := by rw [hbl] at g1; simpa using g1.symm
    subst this
    simp only [List.getElem_set_self] at g3
    have g30 := g3 _ (Kp.refl _ _) 0 (.int .i64 hh.id) rfl
    rw [Nat.add_zero] at g30
    rw [ldPl hp5, g3 _ (Kp.refl _ _) 3 (.int .i64 hh.q) rfl, neg_of, g3 _ (Kp.refl _ _) 3 (.int .i64 hh.q) rfl, neg_of, ldF hy5 (j := 0) (x := .int .i64 o.k) rfl, g30]
    simp [-getElem?_pos, -Array.all_eq_true, -Array.getElem?_eq_getElem, -List.length_flatten, List.getElem?_cons_zero, List.getElem?_cons_succ, move_zc, str_nil, bld_done, bld_if, offAt, putAt, -ld1_p, -st1_p, -ldn_p, -stn_p, -newG_k]
    refine moved_spec h5d hs hl hlm hh.sku hh.loc (w64i (-hh.q)) (w64i (-hh.q)) ⟨0, [], [], 0, o.k, hh.id⟩ fun w6 S6 h6 k6 hS6 => ?_
    exact hK w6 S6 h6 ((k05.trans' (kp_drew.mono (by simp))).trans' k6) fun q hq => (hS6 q hq).imp id fun e => by have : w5.drew.heap.size = w5.heap.size := rfl; omega
end
end Go.Proofs

/- Layer 7: the document's ledger: holds that are due. -/
set_option linter.unusedVariables false
set_option linter.unusedSimpArgs false
namespace Go.Proofs
open Go Go.Q
theorem putS_len (l : List SV) (s : SV) : (putS l s).length ≤ l.length + 1 := by
  induction l with
  | nil => simp [putS]
  | cons x r ih =>
    unfold putS
    split
    · simp; omega
    · split <;> simp
theorem held_sorted {l : LV} (h : Sorted l.st) (sku loc : List UInt8) (n : Int) : Sorted (heldL l sku loc n).st := putS_sorted h
/-- a ledger in a variable -/
structure LVar (w0 w : World) (x : Nat) (l : LV) (S0 S : List Nat) : Prop where
  ex : ∃ a b c, w.heap[x]? = some (.cells #[a, b, c, .int .i64 l.ops] 60) ∧ LedS w (.agg #[a, b, c, .int .i64 l.ops]) l S
  x0 : w0.heap.size ≤ x
  xS : x ∉ S
  new : ∀ q ∈ S, q ∈ S0 ∨ w0.heap.size ≤ q
  kp : Kp [] w0 w
section
variable {w0 w : World} {x : Nat} {l : LV} {S0 S : List Nat}
theorem LVar.keep {w' : World} (h : LVar w0 w x l S0 S) (hk : Kp [] w w') : LVar w0 w' x l S0 S := by
  obtain ⟨a, b, c, h1, h2⟩ := h.ex
  exact ⟨⟨a, b, c, hk.get h1 (by simp), h2.keep hk (by simp)⟩, h.x0, h.xS, h.new, h.kp.trans' hk⟩
theorem LVar.ld (h : LVar w0 w x l S0 S) : ∃ v, (∀ K : Value → Prop, ldn 4 (.pointer (some ⟨x, 0, none⟩)) w K = K v) ∧ LedS w v l S := by
  obtain ⟨a, b, c, h1, h2⟩ := h.ex
  exact ⟨_, fun K => ldAll h1 rfl, h2⟩
/-- another ledger is put there -/
theorem LVar.st (h : LVar w0 w x l S0 S) {w1 : World} {v : Value} {l' : LV} {S' : List Nat} (hk : Kp [] w w1) (hv : LedS w1 v l' S') (hS : ∀ q ∈ S', q ∈ S ∨ w.heap.size ≤ q) {K : World → Prop}
    (hK : ∀ w2, Kp [x] w1 w2 → LVar w0 w2 x l' S0 S' → K w2) : stn 4 (.pointer (some ⟨x, 0, none⟩)) v w1 K := by
  obtain ⟨a, b, c, h1, h2⟩ := h.ex
  obtain ⟨a', b', c', SA, SB, SC, rfl, r1, r2, r3, e⟩ := hv.ex
  have hx1 := hk.get h1 (by simp)
  have hxl := lt_of_blk h1
  have hone := LedAt.ones (l := l') ⟨_, r1⟩ ⟨_, r2⟩ ⟨_, r3⟩
  rw [stAll (k := 4) hx1 rfl rfl hone]
  have hkx : Kp [x] w1 (setBlk w1 x (.cells #[a', b', c', .int .i64 l'.ops] 60)) := (Kp.refl _ w1).setBlk (.inl (by simp)) _
  have hxS' : x ∉ S' := fun hm => by
    rcases hS x hm with hh | hh
    · exact h.xS hh
    · omega
  have hsz := h.kp.size
  have x0 := h.x0
  refine hK _ hkx ⟨⟨a', b', c', heap_self (live_of hx1), hv.keep hkx fun q hq => by simp; intro hh; exact hxS' (hh ▸ hq)⟩, h.x0, hxS', fun q hq => ?_, (h.kp.trans' hk).trans hkx fun q hq hlt => by simp at hq; omega⟩
  rcases hS q hq with hh | hh
  · exact h.new q hh
  · exact .inr (by omega)
theorem LVar.rd (h : LVar w0 w x l S0 S) : ∃ a b c, w.heap[x]? = some (.cells #[a, b, c, .int .i64 l.ops] 60) ∧ Rd w a 4 (l.st.map sC) ∧ Rd w b 6 (l.ho.map hC) ∧ Rd w c 6 (l.mo.map hC) := by
  obtain ⟨a, b, c, h1, h2⟩ := h.ex
  obtain ⟨a', b', c', e, r1, r2, r3⟩ := h2.at
  simp only [Value.agg.injEq, Array.mk.injEq, List.cons.injEq] at e
  obtain ⟨rfl, rfl, rfl, _⟩ := e
  exact ⟨a, b, c, h1, r1, r2, r3⟩
end
/-- an argument in a variable -/
theorem argVar {w : World} {v : Value} {l : LV} {S : List Nat} (hv : LedS w v l S) {K : Value → World → Prop} (hK : ∀ x w1, LVar w w1 x l S S → K (.pointer (some ⟨x, 0, none⟩)) w1) : newG (Value.cells v) 60 w K := by
  have hlt := hv.lt
  obtain ⟨a, b, c, SA, SB, SC, e, h1, h2, h3, _⟩ := hv.ex
  subst e
  refine argBox (cs := [a, b, c, .int .i64 l.ops]) fun x w1 hx hh hk => hK x w1 ⟨⟨a, b, c, hh, hv.keep hk (by simp)⟩, hx, fun hm => by have := hlt x hm; omega, fun q hq => .inl hq, hk⟩
end Go.Proofs

/- Layer 7: an operation is done (the branches). -/
set_option linter.unusedVariables false
set_option linter.unusedSimpArgs false
namespace Go.Proofs
open Go Go.Q
/-- how things stand in does -/
structure DoAt (w0 w : World) (x y p5 p6 : Nat) (l : LV) (S : List Nat) (o : OpV) : Prop where
  at_ : WorkAt w0 w x l S
  hy : w.heap[y]? = some (.cells (opC o).toArray 23)
  h5 : w.heap[p5]? = some (.cells #[.string (str o.sku), .string (str o.loc)] 119)
  h6 : w.heap[p6]? = some (.cells #[.string (str o.sku), .string (str o.to)] 119)
  yS : y ∉ S
  s5 : p5 ∉ S
  s6 : p6 ∉ S
section
variable {w0 w : World} {x y p5 p6 : Nat} {l : LV} {S : List Nat} {o : OpV}
theorem op_zc : zc Try.prog 23 = [.int .i64 0, .string (str []), .string (str []), .string (str []), .int .i64 0, .int .i64 0, .int .i64 0].toArray := zcOp
theorem DoAt.keep {w' : World} (h : DoAt w0 w x y p5 p6 l S o) (hk : Kp [] w w') : DoAt w0 w' x y p5 p6 l S o :=
  ⟨h.at_.keep hk, hk.get h.hy (by simp), hk.get h.h5 (by simp), hk.get h.h6 (by simp), h.yS, h.s5, h.s6⟩
theorem DoAt.next {w' : World} {l' : LV} {S' : List Nat} (h : DoAt w0 w x y p5 p6 l S o) (ha : WorkAt w0 w' x l' S') (hk : Kp S w w') (hS : ∀ q ∈ S', q ∈ S ∨ w.heap.size ≤ q) : DoAt w0 w' x y p5 p6 l' S' o := by
  have a1 := lt_of_blk h.hy
  have a2 := lt_of_blk h.h5
  have a3 := lt_of_blk h.h6
  have b1 := h.yS
  have b2 := h.s5
  have b3 := h.s6
  refine ⟨ha, hk.get h.hy h.yS, hk.get h.h5 h.s5, hk.get h.h6 h.s6, fun hm => ?_, fun hm => ?_, fun hm => ?_⟩
  · rcases hS _ hm with e | e
    · exact b1 e
    · omega
  · rcases hS _ hm with e | e
    · exact b2 e
    · omega
  · rcases hS _ hm with e | e
    · exact b3 e
    · omega
theorem DoAt.op (h : DoAt w0 w x y p5 p6 l S o) (j : Nat) (v : Value) (hj : (opC o)[j]? = some v) (K : Value → Prop) : ld1 (.pointer (some ⟨y, j, none⟩)) w K = K v := ldF h.hy (by simpa using hj)
theorem does_s1 (h : DoAt w0 w x y p5 p6 l S o) (hs : Sorted l.st) (hl : l.st.length < 2 ^ 20) (hlm : l.mo.length < 2 ^ 20) {K : Value → World → Prop}
    (hK : ∀ w' S', WorkAt w0 w' x (moveW l o.sku o.loc o.q 0 o.k 0) S' → Kp S w w' → (∀ q ∈ S', q ∈ S ∨ w.heap.size ≤ q) → K (.int .i64 0) w') :
    ledger_work_does_s1 K (.pointer (some ⟨x, 0, none⟩)) (.pointer (some ⟨y, 0, none⟩)) (.pointer (some ⟨p5, 0, none⟩)) w := by
  unfold ledger_work_does_s1 ledger_work_does_s0
  simp only [fa_p, Nat.add_zero, Nat.zero_add]
  rw [ldPl h.h5, h.op 4 (.int .i64 o.q) rfl, h.op 0 (.int .i64 o.k) rfl]
  simp [-getElem?_pos, -Array.all_eq_true, -Array.getElem?_eq_getElem, -List.length_flatten, List.getElem?_cons_zero, List.getElem?_cons_succ, move_zc, str_nil, bld_done, bld_if, offAt, putAt, -ld1_p, -st1_p, -ldn_p, -stn_p, -newG_k]
  exact moved_spec h.at_ hs hl hlm o.sku o.loc o.q 0 ⟨0, [], [], 0, o.k, 0⟩ hK
theorem does_s7 (h : DoAt w0 w x y p5 p6 l S o) (hs : Sorted l.st) (hl : l.st.length < 2 ^ 20) (hlh : l.ho.length < 2 ^ 20) (hlm : l.mo.length < 2 ^ 20) (hid : 1 ≤ o.id) {K : Value → World → Prop}
    (hK : ∀ w' S', WorkAt w0 w' x (overW l o).1 S' → Kp S w w' → (∀ q ∈ S', q ∈ S ∨ w.heap.size ≤ q) → K (.int .i64 (overW l o).2) w') :
    ledger_work_does_s7 K (.pointer (some ⟨x, 0, none⟩)) (.pointer (some ⟨y, 0, none⟩)) w := by
  unfold ledger_work_does_s7
  rw [ldAll (k := 7) h.hy rfl]
  exact over_spec h.at_ hs hl hlh hlm o hid hK
theorem does_s2 (h : DoAt w0 w x y p5 p6 l S o) (hs : Sorted l.st) (hl : l.st.length < 2 ^ 20) (hlh : l.ho.length < 2 ^ 20) {K : Value → World → Prop}
    (hK : ∀ w' S', WorkAt w0 w' x { turnL l o.sku o.loc 0 o.q with ho := l.ho ++ [⟨(l.ho.length + 1 : Nat), o.sku, o.loc, o.q, 0, o.due⟩] } S' → Kp S w w' → (∀ q ∈ S', q ∈ S ∨ w.heap.size ≤ q) → K (.int .i64 0) w') :
    ledger_work_does_s2 K (.pointer (some ⟨x, 0, none⟩)) (.pointer (some ⟨y, 0, none⟩)) (.pointer (some ⟨p5, 0, none⟩)) w := by
  unfold ledger_work_does_s2 ledger_work_does_s0
  simp only [fa_p, nk_p, Nat.add_zero, Nat.zero_add]
  rw [ldPl h.h5, h.op 4 (.int .i64 o.q) rfl]
  refine turned_spec h.at_ hs hl o.sku o.loc 0 o.q fun w1 S1 h1 k1 hS1 => ?_
  have d1 := (h.next h1 k1 hS1).keep kp_drew
  obtain ⟨W, hW⟩ : ∃ W, W = w1.drew := ⟨_, rfl⟩
  have hWs : W.heap.size = w1.heap.size := by rw [hW]; rfl
  have k1W : Kp S w W := by rw [hW]; exact k1.drew
  rw [← hW] at d1 ⊢
  obtain ⟨b, T, r1, hT, hxT, hld, hin, hst⟩ := d1.at_.focusB
  obtain ⟨ba, bc, hbv, _⟩ := r1.len
  have hlen : ∀ K : Value → Prop, lenL b K = K (.int .i64 l.ho.length) := fun K => by rw [hbv, lenL_s]; simp [turnL]
  have hiw : IntKind.i64.wrap ((l.ho.length : Int) + 1) = ((l.ho.length + 1 : Nat) : Int) := by rw [w64 (by omega) (by omega)]; simp
  rw [hld _ (Kp.refl _ _), hld _ (Kp.refl _ _), hlen]
  simp only [bq_add, hiw]
  rw [d1.op 1 (.string (str o.sku)) rfl, d1.op 2 (.string (str o.loc)) rfl, d1.op 4 (.int .i64 o.q) rfl, d1.op 6 (.int .i64 o.due) rfl]
  have ⟨nv, hnv⟩ : ∃ nv : HV, nv = HV.mk ((l.ho.length + 1 : Nat) : Int) o.sku o.loc o.q 0 o.due := Exists.intro (HV.mk ((l.ho.length + 1 : Nat) : Int) o.sku o.loc o.q 0 o.due) (Eq.refl _)
  simp [-getElem?_pos, -Array.all_eq_true, -Array.getElem?_eq_getElem, -List.length_flatten, List.getElem?_cons_zero, List.getElem?_cons_succ, hold_zc, str_nil, bld_done, bld_if, offAt, putAt, -ld1_p, -st1_p, -ldn_p, -stn_p, -newG_k]
  rw [← hold_zc]
  refine bsl_rowN (n := 6) (cs := hC nv) (by omega) (by rw [hnv]; simp [hC]) rfl fun v5 w5 f5 => ?_
  have k25 := f5.kp
  rw [hld _ (k25.mono (by simp))]
  refine ⟨rfl, ?_⟩
  rw [hold_zc]
  refine rows_push (r1.keep k25 (by simp)) (by omega) rfl f5.rd rfl (by omega) (by simp [turnL]; omega) fun v6 w6 T6 r6 k6 hT6 => ?_
  have k26 : Kp T W w6 := (k25.mono (by simp)).trans' k6
  have hs5 := k25.size
  refine hst w6 v6 T6 ((turnL l o.sku o.loc 0 o.q).ho ++ [nv]) k26 (by rw [List.map_append]; exact r6) (fun q hq => (hT6 q hq).imp id fun e => by omega) _ fun w7 S7 h7 k7 _ hS7 => ?_
  have hs1 := k1.size
  refine hK w7 S7 (by rw [hnv] at h7; exact h7) (k1W.trans k7 fun q hq hlt => ?_) fun q hq => ?_
  · rcases hS1 q hq with e | e
    · exact e
    · omega
  · rcases hS7 q hq with e | e
    · exact hS1 q e
    · exact .inr (by omega)
theorem does_s3 (h : DoAt w0 w x y p5 p6 l S o) (hs : Sorted l.st) (hf : FitS l.st) (hl : l.st.length < 2 ^ 18) (hlm : l.mo.length < 2 ^ 18) (hq : rngI o.q) {K : Value → World → Prop}
    (hK1 : ∀ w', Kp [] w w' → (moreL l o.sku o.to o.q).2 ≠ 0 → K (.int .i64 (moreL l o.sku o.to o.q).2) w')
    (hK : ∀ w' S', WorkAt w0 w' x (moveW (moveW l o.sku o.loc (w64i (-o.q)) 0 o.k 0) o.sku o.to o.q 0 o.k 0) S' → Kp S w w' → (∀ q ∈ S', q ∈ S ∨ w.heap.size ≤ q) → (moreL l o.sku o.to o.q).2 = 0 → K (.int .i64 0) w') :
    ledger_work_does_s3 K (.pointer (some ⟨x, 0, none⟩)) (.pointer (some ⟨y, 0, none⟩)) (.pointer (some ⟨p5, 0, none⟩)) (.pointer (some ⟨p6, 0, none⟩)) w := by
  unfold ledger_work_does_s3 ledger_work_does_s0
  simp only [fa_p, nk_p, Nat.add_zero, Nat.zero_add]
  rw [ldPl h.h6, h.op 4 (.int .i64 o.q) rfl]
  refine more_spec h.at_ hf (by omega) o.sku o.to hq fun w1 k1 => ?_
  have d1 := h.keep k1
  simp only [ex0, ex1, bq_neq, bV_b, decide_eq_true_eq, decide_eq_false_iff_not]
  refine ⟨fun e => hK1 w1 k1 e, fun e => ?_⟩
  rw [ldPl d1.h5, d1.op 4 (.int .i64 o.q) rfl, neg_of, d1.op 0 (.int .i64 o.k) rfl]
  simp [-getElem?_pos, -Array.all_eq_true, -Array.getElem?_eq_getElem, -List.length_flatten, List.getElem?_cons_zero, List.getElem?_cons_succ, move_zc, str_nil, bld_done, bld_if, offAt, putAt, -ld1_p, -st1_p, -ldn_p, -stn_p, -newG_k]
  refine moved_spec d1.at_ hs (by omega) (by omega) o.sku o.loc (w64i (-o.q)) 0 ⟨0, [], [], 0, o.k, 0⟩ fun w2 S2 h2 k2 hS2 => ?_
  have d2 := d1.next h2 k2 hS2
  rw [ldPl d2.h6, d2.op 4 (.int .i64 o.q) rfl, d2.op 0 (.int .i64 o.k) rfl]
  simp [-getElem?_pos, -Array.all_eq_true, -Array.getElem?_eq_getElem, -List.length_flatten, List.getElem?_cons_zero, List.getElem?_cons_succ, move_zc, str_nil, bld_done, bld_if, offAt, putAt, -ld1_p, -st1_p, -ldn_p, -stn_p, -newG_k]
  have hln := putS_len l.st { findS l.st o.sku o.loc with hand := w64i ((findS l.st o.sku o.loc).hand + w64i (-o.q)), held := w64i ((findS l.st o.sku o.loc).held + 0) }
  refine moved_spec h2 (turn_fit hs hf _ _ _ _).2 (by show (putS l.st _).length < _; omega) (by show (l.mo ++ [_]).length < _; simp; omega) o.sku o.to o.q 0 ⟨0, [], [], 0, o.k, 0⟩ fun w3 S3 h3 k3 hS3 => ?_
  have hs1 := k1.size
  have hs2 := k2.size
  refine hK w3 S3 h3 (((k1.mono (by simp)).trans' k2).trans k3 fun q hq hlt => ?_) (fun q hq => ?_) (Decidable.not_not.1 e)
  · rcases hS2 q hq with e | e
    · exact e
    · omega
  · rcases hS3 q hq with e | e
    · exact (hS2 q e).imp id fun e => by omega
    · exact .inr (by omega)
def Ids (l : LV) : Prop := ∀ k (h : k < l.ho.length), l.ho[k].id = (k + 1 : Nat)
theorem ids_state {l : LV} (h : Ids l) (k : Nat) (n : Int) : Ids (stateL l k n) := by
  intro j hj
  have hj' : j < l.ho.length := by simpa [stateL] using hj
  by_cases he : k = j
  · subst he
    simp only [stateL, List.getElem_set_self]
    have := h k hj'
    simpa [List.getD, hj'] using this
  · simp only [stateL]
    rw [List.getElem_set_ne he]
    exact h j hj'
theorem does_s6 (h : DoAt w0 w x y p5 p6 l S o) (hs : Sorted l.st) (hf : FitS l.st) (hid : Ids l) (hl : l.st.length + l.ho.length < 2 ^ 18) (hlm : l.mo.length < 2 ^ 18) {K : Value → World → Prop}
    (hK : ∀ w' S', WorkAt w0 w' x (expireL l o.due 0 l.ho.length) S' → Kp S w w' → (∀ q ∈ S', q ∈ S ∨ w.heap.size ≤ q) → K (.int .i64 0) w') :
    ledger_work_does_s6 K (.pointer (some ⟨x, 0, none⟩)) (.pointer (some ⟨y, 0, none⟩)) w := by
  unfold ledger_work_does_s6
  simp only [fa_p, nk_p, Nat.add_zero, Nat.zero_add]
  obtain ⟨b, T, r1, hT, hxT, hld, hin, hst⟩ := h.at_.focusB
  obtain ⟨ba, bc, hbv, _⟩ := r1.len
  have hlen : ∀ K : Value → Prop, lenL b K = K (.int .i64 l.ho.length) := fun K => by rw [hbv, lenL_s]; simp
  rw [hld _ (Kp.refl _ _), hlen]
  obtain ⟨E, hE⟩ : ∃ E, E = expireL l o.due 0 l.ho.length := ⟨_, rfl⟩
  rw [← hE] at hK
  unfold ledger_work_does_L5
  refine loop_inv (fun m xs wi => ∃ (i : Nat) (li : LV) (Si : List Nat), i ≤ l.ho.length ∧ m = l.ho.length - i ∧ xs = [.pointer (some ⟨x, 0, none⟩), .pointer (some ⟨y, 0, none⟩), .int .i64 l.ho.length, .int .i64 (i : Nat)] ∧ E = expireL li o.due i (l.ho.length - i) ∧
      Sorted li.st ∧ FitS li.st ∧ Ids li ∧ li.st.length ≤ l.st.length + i ∧ li.ho.length = l.ho.length ∧ li.mo.length = l.mo.length ∧ DoAt w0 wi x y p5 p6 li Si o ∧ Kp S w wi ∧ (∀ q ∈ Si, q ∈ S ∨ w.heap.size ≤ q)) ?_ (m := l.ho.length)
    ⟨0, l, S, by omega, rfl, rfl, hE, hs, hf, hid, by omega, rfl, rfl, h, Kp.refl _ _, fun q hq => .inl hq⟩
  rintro m N xs wi ⟨i, li, Si, hi, rfl, rfl, he, hsi, hfi, hidi, hsl, hho, hmo, di, ki, hSi⟩ hN
  have hiw : IntKind.i64.wrap ((i : Int) + 1) = ((i + 1 : Nat) : Int) := by rw [w64 (by omega) (by omega)]; simp
  unfold ledger_work_does_L5F ledger_work_does_b4
  simp only [bq_lss, bV_b, decide_eq_true_eq, decide_eq_false_iff_not]
  refine ⟨fun hlt => ?_, fun hge => ?_⟩
  · have hlti : i < li.ho.length := by omega
    rw [show l.ho.length - i = (l.ho.length - (i + 1)) + 1 by omega] at he
    unfold expireL at he
    have hg : li.ho.getD i hZ = li.ho[i] := by simp only [List.getD, List.getElem?_eq_getElem hlti, Option.getD_some]
    simp only [hg] at he
    obtain ⟨b, T, r1, hT, hxT, hld, hin, hst⟩ := di.at_.focusB
    obtain ⟨pp, i1, i2⟩ := rd_hold ⟨T, .inr r1.rd⟩ hlti
    simp only [fa_p, nk_p, Nat.add_zero, Nat.zero_add]
    rw [hld _ (Kp.refl _ _), i1, i2]
    refine boxHold (o := li.ho[i]) (by kernel_rfl) fun p w5 hp hh5 hk5 => ?_
    have d5 := di.keep hk5
    have hs5 := hk5.size
    have kw5 : Kp S w w5 := ki.trans' (hk5.mono (by simp))
    have hsz := ki.size
    have hno : dueL li.ho[i] o.due = false → N [.pointer (some ⟨x, 0, none⟩), .pointer (some ⟨y, 0, none⟩), .int .i64 l.ho.length, .int .i64 (i + 1 : Nat)] w5 := by
      intro hd
      rw [if_neg (by simp [hd])] at he
      exact hN (l.ho.length - (i + 1)) _ w5 (by omega) ⟨i + 1, li, Si, by omega, rfl, rfl, he, hsi, hfi, hidi, by omega, hho, hmo, d5, kw5, hSi⟩
    have hl' : (li.ho[i].id : Int) = ((i + 1 : Nat) : Int) := hidi i hlti
    have hyes : dueL li.ho[i] o.due = true → callG Try.prog 110 #[.pointer (some ⟨x, 0, none⟩), .agg (opC ⟨4, [], [], [], 0, li.ho[i].id, 0⟩).toArray] w5 fun t184 w => N [.pointer (some ⟨x, 0, none⟩), .pointer (some ⟨y, 0, none⟩), .int .i64 l.ho.length, .int .i64 (i + 1 : Nat)] w := by
      intro hd
      rw [if_pos hd] at he
      have hst0 : li.ho[i].st = 0 := by simp only [dueL, decide_eq_true_eq] at hd; exact hd.1
      have hov : overW li ⟨4, [], [], [], 0, li.ho[i].id, 0⟩ = (stateL (heldL li li.ho[i].sku li.ho[i].loc (w64i (-li.ho[i].q))) i 2, 0) := by
        rw [overW_eq hsi hfi]
        have ei : (li.ho[i].id - 1).toNat = i := by omega
        have ha : holdAt li li.ho[i].id = li.ho[i] := by unfold holdAt; rw [ei]; exact hg
        unfold overL
        simp only [ha, ei]
        rw [if_neg (by omega)]
        simp only [if_true]
      refine over_spec d5.at_ hsi (by omega) (by omega) (by omega) ⟨4, [], [], [], 0, li.ho[i].id, 0⟩ (by show 1 ≤ li.ho[i].id; omega) fun w6 S6 h6 k6 hS6 => ?_
      rw [hov] at h6
      have d6 := d5.next h6 k6 hS6
      have hln := putS_len li.st { findS li.st li.ho[i].sku li.ho[i].loc with held := w64i ((findS li.st li.ho[i].sku li.ho[i].loc).held + w64i (-li.ho[i].q)) }
      refine hN (l.ho.length - (i + 1)) _ w6 (by omega) ⟨i + 1, _, S6, by omega, rfl, rfl, he, held_sorted hsi _ _ _, ?_, ?_, ?_, ?_, ?_, d6, kw5.trans k6 fun q hq hlt => ?_, fun q hq => ?_⟩
      · exact fitS_put hsi hfi (hfi _ _).1 (fits_w _)
      · exact ids_state (l := heldL li _ _ _) hidi i 2
      · show (putS li.st _).length ≤ _; omega
      · simp [stateL, heldL, hho]
      · exact hmo
      · rcases hSi q hq with e | e
        · exact e
        · omega
      · rcases hS6 q hq with e | e
        · exact hSi q e
        · exact .inr (by omega)
    simp only [fa_p, Nat.add_zero, Nat.zero_add]
    rw [ldF hh5 (j := 4) (x := .int .i64 li.ho[i].st) rfl]
    simp only [bq_eql, bq_add, hiw, bV_b, decide_eq_true_eq, decide_eq_false_iff_not]
    refine ⟨fun e0 => ?_, fun e0 => hno (by simp [dueL, e0])⟩
    rw [ldF hh5 (j := 5) (x := .int .i64 li.ho[i].due) rfl]
    simp only [bq_gtr, bV_b, decide_eq_true_eq, decide_eq_false_iff_not]
    refine ⟨fun e1 => ?_, fun e1 => hno (by simp [dueL]; omega)⟩
    rw [ldF hh5 (j := 5) (x := .int .i64 li.ho[i].due) rfl, d5.op 6 (.int .i64 o.due) rfl]
    simp only [bq_leq, bV_b, decide_eq_true_eq, decide_eq_false_iff_not]
    refine ⟨fun e2 => ?_, fun e2 => hno (by simp [dueL, e2])⟩
    rw [ldF hh5 (j := 0) (x := .int .i64 li.ho[i].id) rfl]
    simp [-getElem?_pos, -Array.all_eq_true, -Array.getElem?_eq_getElem, -List.length_flatten, List.getElem?_cons_zero, List.getElem?_cons_succ, op_zc, str_nil, bld_done, bld_if, offAt, putAt, -ld1_p, -st1_p, -ldn_p, -stn_p, -newG_k]
    exact hyes (by simp [dueL, e0, e2]; omega)
  · have hie : i = l.ho.length := by omega
    subst hie
    rw [Nat.sub_self] at he
    unfold ledger_work_does_s0
    have he' : E = li := by rw [he]; rfl
    rw [he'] at hK
    exact hK wi Si di.at_ ki hSi
end
end Go.Proofs

/- Layer 7: an operation is done. -/
set_option linter.unusedVariables false
set_option linter.unusedSimpArgs false
namespace Go.Proofs
open Go Go.Q
section
variable {w0 w : World} {x y p5 p6 : Nat} {l : LV} {S : List Nat} {o : OpV}
/-- what is asked of a ledger and an operation -/
structure DoH (l : LV) (o : OpV) : Prop where
  may : May l
  q : rngI o.q
  k0 : 1 ≤ o.k
  k1 : o.k ≤ 7
  id : o.k = 3 ∨ o.k = 4 → 1 ≤ o.id
theorem DoH.few (h : DoH l o) : l.st.length ≤ 4096 ∧ l.ho.length ≤ 4096 ∧ l.mo.length ≤ 4096 := by
  have hfew := h.may.few
  simp only [fullL, decide_eq_false_iff_not, not_or] at hfew
  omega
theorem DoH.ids (h : DoH l o) : Ids l := fun k hk => by
  have := h.may.holds k hk
  simp only [holdOk, Bool.and_eq_true, decide_eq_true_eq] at this
  exact this.1.1.1.1
theorem DoH.fitS (h : DoH l o) : FitS l.st := by
  have hg : Good l := h.may.m
  exact hg.fitS
theorem does_s16 (hh : DoH l o) (h : DoAt w0 w x y p5 p6 l S o) (hf : o.k = 2 ∨ o.k = 6 → ¬ freeL l o.sku o.loc < o.q) (hm : o.k = 1 ∨ o.k = 7 → (moreL l o.sku o.loc o.q).2 = 0 ∧ ¬ (moreL l o.sku o.loc o.q).1 < (findS l.st o.sku o.loc).held) {K : Value → World → Prop}
    (hK : ∀ w' S', WorkAt w0 w' x (doesL l o).1 S' → Kp S w w' → (∀ q ∈ S', q ∈ S ∨ w.heap.size ≤ q) → K (.int .i64 (doesL l o).2) w') :
    ledger_work_does_s16 K (.pointer (some ⟨x, 0, none⟩)) (.pointer (some ⟨y, 0, none⟩)) (.pointer (some ⟨p5, 0, none⟩)) (.pointer (some ⟨p6, 0, none⟩)) w := by
  obtain ⟨f1, f2, f3⟩ := hh.few
  have hs := hh.may.sorted
  have hfs := hh.fitS
  have k0 := hh.k0
  have k1 := hh.k1
  rw [← doesW_eq hs hfs o] at hK
  unfold ledger_work_does_s16
  simp only [fa_p, Nat.add_zero, Nat.zero_add]
  rw [h.op 0 (.int .i64 o.k) rfl]
  have go1 : o.k = 1 ∨ o.k = 7 → ledger_work_does_s14 K (.pointer (some ⟨x, 0, none⟩)) (.pointer (some ⟨y, 0, none⟩)) (.pointer (some ⟨p5, 0, none⟩)) (.pointer (some ⟨p6, 0, none⟩)) (.int .i64 o.k) (.bool true) w := by
    intro e
    have ed : doesW l o = (moveW l o.sku o.loc o.q 0 o.k 0, 0) := by
      unfold doesW
      rw [if_pos e, if_neg (by rw [(hm e).1]; simp), if_neg (hm e).2]
    rw [ed] at hK
    unfold ledger_work_does_s14
    simp only [bV_b, true_implies, Bool.true_eq_false, false_implies, and_true]
    exact does_s1 h hs (by omega) (by omega) hK
  unfold ledger_work_does_s15
  simp only [bq_eql, bV_b, decide_eq_true_eq, decide_eq_false_iff_not]
  refine ⟨fun e1 => go1 (.inl e1), fun e1 => ?_⟩
  by_cases e7 : o.k = 7
  · rw [decide_eq_true e7]; exact go1 (.inr e7)
  rw [decide_eq_false e7]
  unfold ledger_work_does_s14 ledger_work_does_s13
  simp only [bq_eql, bV_b, true_implies, Bool.false_eq_true, false_implies, true_and]
  unfold ledger_work_does_s12
  simp only [bV_b, decide_eq_true_eq, decide_eq_false_iff_not]
  refine ⟨fun e2 => ?_, fun e2 => ?_⟩
  · have ed : doesW l o = ({ turnL l o.sku o.loc 0 o.q with ho := l.ho ++ [⟨(l.ho.length + 1 : Nat), o.sku, o.loc, o.q, 0, o.due⟩] }, 0) := by
      unfold doesW
      rw [if_neg (by omega), if_pos e2, if_neg (hf (.inl e2))]; rfl
    rw [ed] at hK
    exact does_s2 h hs (by omega) (by omega) hK
  unfold ledger_work_does_s11
  simp only [bq_eql]
  unfold ledger_work_does_s10
  simp only [bV_b, decide_eq_true_eq, decide_eq_false_iff_not]
  refine ⟨fun e6 => ?_, fun e6 => ?_⟩
  · have ed : doesW l o = if (moreL l o.sku o.to o.q).2 ≠ 0 then (l, (moreL l o.sku o.to o.q).2) else (moveW (moveW l o.sku o.loc (w64i (-o.q)) 0 o.k 0) o.sku o.to o.q 0 o.k 0, 0) := by
      unfold doesW
      rw [if_neg (by omega), if_neg e2, if_neg (by omega), if_pos e6, if_neg (hf (.inr e6))]
    rw [ed] at hK
    refine does_s3 h hs hfs (by omega) (by omega) hh.q (fun w1 k1 e => ?_) fun w1 S1 h1 k1 hS e => ?_
    · rw [if_pos e] at hK
      exact hK w1 S (h.keep k1).at_ (k1.mono (by simp)) fun q hq => .inl hq
    · rw [if_neg (by rw [e]; simp)] at hK
      exact hK w1 S1 h1 k1 hS
  unfold ledger_work_does_s9
  simp only [bq_eql]
  unfold ledger_work_does_s8
  simp only [bV_b, decide_eq_true_eq, decide_eq_false_iff_not]
  refine ⟨fun e5 => ?_, fun e5 => ?_⟩
  · have ed : doesW l o = (expireL l o.due 0 l.ho.length, 0) := by
      unfold doesW
      rw [if_neg (by omega), if_neg e2, if_pos e5]
    rw [ed] at hK
    exact does_s6 h hs hfs hh.ids (by omega) (by omega) hK
  · have ed : doesW l o = overW l o := by
      unfold doesW
      rw [if_neg (by omega), if_neg e2, if_neg e5, if_neg e6]
    rw [ed] at hK
    exact does_s7 h hs (by omega) (by omega) (by omega) (hh.id (by omega)) hK
theorem does_s17 (hh : DoH l o) (h : DoAt w0 w x y p5 p6 l S o) (hk : o.k = 2 ∨ o.k = 6) {K : Value → World → Prop}
    (hK : ∀ w' S', WorkAt w0 w' x (doesL l o).1 S' → Kp S w w' → (∀ q ∈ S', q ∈ S ∨ w.heap.size ≤ q) → K (.int .i64 (doesL l o).2) w') :
    ledger_work_does_s17 K (.pointer (some ⟨x, 0, none⟩)) (.pointer (some ⟨y, 0, none⟩)) (.pointer (some ⟨p5, 0, none⟩)) (.pointer (some ⟨p6, 0, none⟩)) w := by
  unfold ledger_work_does_s17
  have hd := h.keep kp_drew
  obtain ⟨v, hld, hv⟩ := hd.at_.ld
  simp only [nk_p, fa_p, Nat.add_zero, Nat.zero_add]
  rw [hld, hd.op 1 (.string (str o.sku)) rfl, hd.op 2 (.string (str o.loc)) rfl, hd.op 4 (.int .i64 o.q) rfl]
  refine Free_spec7 hh.may hv o.sku o.loc fun w1 k1 => ?_
  have d1 := hd.keep k1
  have k01 : Kp [] w w1 := kp_drew.trans' k1
  have hsz := k01.size
  rw [d1.op 4 (.int .i64 o.q) rfl]
  simp only [bq_lss, bV_b, decide_eq_true_eq, decide_eq_false_iff_not]
  refine ⟨trivial, fun e => ?_, fun e => ?_⟩
  · have ed : doesL l o = (l, 70) := by
      unfold doesL
      rcases hk with hk | hk
      · rw [if_neg (by omega), if_pos hk, if_pos e]
      · rw [if_neg (by omega), if_neg (by omega), if_neg (by omega), if_pos hk, if_pos e]
    rw [ed] at hK
    exact hK w1 S d1.at_ (k01.mono (by simp)) fun q hq => .inl hq
  · exact does_s16 hh d1 (fun _ => e) (fun hx => by omega) fun w' S' a b c => hK w' S' a ((k01.mono (by simp)).trans' b) fun q hq => (c q hq).imp id fun e => by omega
theorem does_s18 (hh : DoH l o) (h : DoAt w0 w x y p5 p6 l S o) (hk : o.k = 1 ∨ o.k = 7) {K : Value → World → Prop}
    (hK : ∀ w' S', WorkAt w0 w' x (doesL l o).1 S' → Kp S w w' → (∀ q ∈ S', q ∈ S ∨ w.heap.size ≤ q) → K (.int .i64 (doesL l o).2) w') :
    ledger_work_does_s18 K (.pointer (some ⟨x, 0, none⟩)) (.pointer (some ⟨y, 0, none⟩)) (.pointer (some ⟨p5, 0, none⟩)) (.pointer (some ⟨p6, 0, none⟩)) (.bool true) w := by
  obtain ⟨f1, f2, f3⟩ := hh.few
  unfold ledger_work_does_s18
  simp only [nk_p, fa_p, Nat.add_zero, Nat.zero_add, bV_b, true_implies, Bool.true_eq_false, false_implies, and_true]
  rw [ldPl h.h5, h.op 4 (.int .i64 o.q) rfl]
  refine more_spec h.at_ hh.fitS (by omega) o.sku o.loc hh.q fun w1 k1 => ?_
  have d1 := h.keep k1
  simp only [ex0, ex1, bq_neq, bV_b, decide_eq_true_eq, decide_eq_false_iff_not]
  refine ⟨fun e => ?_, fun e => ?_⟩
  · have ed : doesL l o = (l, (moreL l o.sku o.loc o.q).2) := by
      unfold doesL
      rw [if_pos hk, if_pos e]
    rw [ed] at hK
    exact hK w1 S d1.at_ (k1.mono (by simp)) fun q hq => .inl hq
  · have d2 := d1.keep kp_drew
    obtain ⟨v, hld, hv⟩ := d2.at_.ld
    rw [hld, d2.op 1 (.string (str o.sku)) rfl, d2.op 2 (.string (str o.loc)) rfl]
    refine Find_spec7 hv (by omega) o.sku o.loc fun w3 k3 => ?_
    have d3 := d2.keep k3
    have k03 : Kp [] w w3 := (k1.trans' kp_drew).trans' k3
    have hsz := k03.size
    unfold sA
    simp [-getElem?_pos, -Array.all_eq_true, -Array.getElem?_eq_getElem, -List.length_flatten, List.getElem?_cons_zero, List.getElem?_cons_succ, -ldn_p, -stn_p, -newG_k, -ld1_p, -st1_p]
    refine ⟨fun e2 => ?_, fun e2 => ?_⟩
    · have ed : doesL l o = (l, 70) := by
        unfold doesL
        rw [if_pos hk, if_neg e, if_pos e2]
      rw [ed] at hK
      exact hK w3 S d3.at_ (k03.mono (by simp)) fun q hq => .inl hq
    · refine does_s16 hh d3 (fun hx => by omega) (fun _ => ⟨by omega, by omega⟩) fun w' S' a b c => hK w' S' a ((k03.mono (by simp)).trans' b) fun q hq => (c q hq).imp id fun e => by omega
theorem does_s22 (hh : DoH l o) (h : DoAt w0 w x y p5 p6 l S o) {K : Value → World → Prop}
    (hK : ∀ w' S', WorkAt w0 w' x (doesL l o).1 S' → Kp S w w' → (∀ q ∈ S', q ∈ S ∨ w.heap.size ≤ q) → K (.int .i64 (doesL l o).2) w') :
    ledger_work_does_s22 K (.pointer (some ⟨x, 0, none⟩)) (.pointer (some ⟨y, 0, none⟩)) (.pointer (some ⟨p5, 0, none⟩)) (.pointer (some ⟨p6, 0, none⟩)) w := by
  unfold ledger_work_does_s22
  simp only [fa_p, Nat.add_zero, Nat.zero_add]
  rw [h.op 0 (.int .i64 o.k) rfl]
  unfold ledger_work_does_s21
  simp only [bq_eql, bV_b, decide_eq_true_eq, decide_eq_false_iff_not]
  have go : o.k = 2 ∨ o.k = 6 → ledger_work_does_s20 K (.pointer (some ⟨x, 0, none⟩)) (.pointer (some ⟨y, 0, none⟩)) (.pointer (some ⟨p5, 0, none⟩)) (.pointer (some ⟨p6, 0, none⟩)) (.int .i64 o.k) (.bool true) w := by
    intro e
    unfold ledger_work_does_s20
    simp only [bV_b, true_implies, Bool.true_eq_false, false_implies, and_true]
    exact does_s17 hh h e hK
  refine ⟨fun e2 => go (.inl e2), fun e2 => ?_⟩
  by_cases e6 : o.k = 6
  · rw [decide_eq_true e6]; exact go (.inr e6)
  rw [decide_eq_false e6]
  unfold ledger_work_does_s20 ledger_work_does_s19
  simp only [bq_eql, bV_b, true_implies, Bool.false_eq_true, false_implies, true_and, decide_eq_true_eq, decide_eq_false_iff_not]
  refine ⟨fun e1 => does_s18 hh h (.inl e1) hK, fun e1 => ?_⟩
  by_cases e7 : o.k = 7
  · rw [decide_eq_true e7]; exact does_s18 hh h (.inr e7) hK
  rw [decide_eq_false e7]
  unfold ledger_work_does_s18
  simp only [bV_b, true_implies, Bool.false_eq_true, false_implies, true_and]
  exact does_s16 hh h (fun e => by omega) (fun e => by omega) hK
theorem does_spec (hh : DoH l o) (h : WorkAt w0 w x l S) {K : Value → World → Prop}
    (hK : ∀ w' S', WorkAt w0 w' x (doesL l o).1 S' → Kp S w w' → (∀ q ∈ S', q ∈ S ∨ w.heap.size ≤ q) → K (.int .i64 (doesL l o).2) w') :
    callG Try.prog 96 #[.pointer (some ⟨x, 0, none⟩), .agg (opC o).toArray] w K := by
  refine ledger_work_does_call ?_
  unfold ledger_work_does ledger_work_does_s23
  have hlt := h.lt
  refine argBox (cs := opC o) fun y w1 hy hh1 hk1 => ?_
  have h1 := h.keep hk1
  have k1d : Kp [] w1 w1.drew := kp_drew
  have op : ∀ w2, Kp [] w1 w2 → ∀ j v, (opC o)[j]? = some v → ∀ K : Value → Prop, ld1 (.pointer (some ⟨y, j, none⟩)) w2 K = K v := fun w2 k2 j v hj K => ldF (k2.get hh1 (by simp)) (by simpa using hj)
  simp only [fa_p, Nat.add_zero, Nat.zero_add]
  rw [op _ k1d 1 (.string (str o.sku)) rfl, op _ k1d 2 (.string (str o.loc)) rfl]
  have hyl := lt_of_blk hh1
  have hbl : ∀ (a b : List UInt8) (K : Value → Prop), bld [(0, 1), (1, 1)] (zc Try.prog 119) #[(0, .string (str a)), (1, .string (str b))] K = K (.agg #[.string (str a), .string (str b)]) := fun a b K => by
    simp [-getElem?_pos, -Array.all_eq_true, -Array.getElem?_eq_getElem, -List.length_flatten, List.getElem?_cons_zero, List.getElem?_cons_succ, zcPl, bld_done, bld_if, offAt, putAt]
  rw [hbl, op _ k1d 1 (.string (str o.sku)) rfl, op _ k1d 3 (.string (str o.to)) rfl, hbl]
  simp only [newG_k, zcPl]
  obtain ⟨pa, hpa⟩ : ∃ pa, pa = w1.drew.heap.size := ⟨_, rfl⟩
  obtain ⟨w2, hw2⟩ : ∃ w2, w2 = w1.drew.alloc (.cells [.string (str []), .string (str [])].toArray 119) := ⟨_, rfl⟩
  have k2 : Kp [] w1 w2 := by rw [hw2]; exact k1d.alloc _
  have ha2 : w2.heap[pa]? = some (.cells [.string (str []), .string (str [])].toArray 119) := by rw [hw2, hpa]; exact heap_new
  rw [← hw2, ← hpa]
  obtain ⟨pb, hpb⟩ : ∃ pb, pb = w2.heap.size := ⟨_, rfl⟩
  obtain ⟨w3, hw3⟩ : ∃ w3, w3 = w2.alloc (.cells [.string (str []), .string (str [])].toArray 119) := ⟨_, rfl⟩
  have k23 : Kp [] w2 w3 := by rw [hw3]; exact kp_alloc
  have k3 : Kp [] w1 w3 := k2.trans' k23
  have hb3 : w3.heap[pb]? = some (.cells [.string (str []), .string (str [])].toArray 119) := by rw [hw3, hpb]; exact heap_new
  have ha3 := k23.get ha2 (by simp)
  rw [← hw3, ← hpb]
  have hal := lt_of_blk ha2
  have hda : w1.drew.heap.size = w1.heap.size := rfl
  have hs1 := hk1.size
  have hab : pa ≠ pb := by omega
  have rest : ∀ p q : Nat, p ≠ q → w1.heap.size ≤ p → w1.heap.size ≤ q → w3.heap[p]? = some (.cells [.string (str []), .string (str [])].toArray 119) → w3.heap[q]? = some (.cells [.string (str []), .string (str [])].toArray 119) →
      stn 2 (.pointer (some ⟨p, 0, none⟩)) (.agg #[.string (str o.sku), .string (str o.loc)]) w3 fun w =>
        ld1 (.pointer (some ⟨y, 3, none⟩)) w (fun u => u = .string (str o.to)) ∧ ld1 (.pointer (some ⟨y, 1, none⟩)) w (fun u => u = .string (str o.sku)) ∧
        stn 2 (.pointer (some ⟨q, 0, none⟩)) (.agg #[.string (str o.sku), .string (str o.to)]) w fun w =>
        ledger_work_does_s22 K (.pointer (some ⟨x, 0, none⟩)) (.pointer (some ⟨y, 0, none⟩)) (.pointer (some ⟨p, 0, none⟩)) (.pointer (some ⟨q, 0, none⟩)) w := by
    intro p q hpq hp hq hp3 hq3
    rw [stAll (k := 2) hp3 rfl rfl (by simp [one])]
    obtain ⟨w4, hw4⟩ : ∃ w4, w4 = setBlk w3 p (.cells #[.string (str o.sku), .string (str o.loc)] 119) := ⟨_, rfl⟩
    have k4 : Kp [] w1 w4 := by rw [hw4]; exact k3.setBlk (.inr hp) _
    have hp4 : w4.heap[p]? = some (.cells #[.string (str o.sku), .string (str o.loc)] 119) := by rw [hw4]; exact heap_self (live_of hp3)
    have hq4 : w4.heap[q]? = some (.cells [.string (str []), .string (str [])].toArray 119) := by rw [hw4, heap_ne hpq]; exact hq3
    rw [← hw4]
    rw [op _ k4 3 (.string (str o.to)) rfl, op _ k4 1 (.string (str o.sku)) rfl]
    refine ⟨rfl, rfl, ?_⟩
    rw [stAll (k := 2) hq4 rfl rfl (by simp [one])]
    obtain ⟨w5, hw5⟩ : ∃ w5, w5 = setBlk w4 q (.cells #[.string (str o.sku), .string (str o.to)] 119) := ⟨_, rfl⟩
    have k5 : Kp [] w1 w5 := by rw [hw5]; exact k4.setBlk (.inr hq) _
    have hp5 : w5.heap[p]? = some (.cells #[.string (str o.sku), .string (str o.loc)] 119) := by rw [hw5, heap_ne (Ne.symm hpq)]; exact hp4
    have hq5 : w5.heap[q]? = some (.cells #[.string (str o.sku), .string (str o.to)] 119) := by rw [hw5]; exact heap_self (live_of hq4)
    rw [← hw5]
    have hs5 := k5.size
    refine does_s22 hh ⟨h1.keep k5, k5.get hh1 (by simp), hp5, hq5, fun hm => by have := hlt _ hm; omega, fun hm => by have := hlt _ hm; omega, fun hm => by have := hlt _ hm; omega⟩ fun w' S' a b c => hK w' S' a (((hk1.trans' k5).mono (by simp)).trans' b) fun q hq => (c q hq).imp id fun e => by omega
  have r2 := fun j v hj K => op _ k2 j v hj K
  have r3 := fun j v hj K => op _ k3 j v hj K
  simp only [r2 3 (.string (str o.to)) rfl, r2 1 (.string (str o.sku)) rfl, r2 2 (.string (str o.loc)) rfl, r3 3 (.string (str o.to)) rfl, r3 1 (.string (str o.sku)) rfl, r3 2 (.string (str o.loc)) rfl, true_and]
  exact ⟨rest pa pb hab (by omega) (by omega) ha3 hb3, rest pb pa (Ne.symm hab) (by omega) (by omega) hb3 ha3⟩
end
end Go.Proofs

/- Layer 7: the document's ledger: expire. -/
set_option linter.unusedVariables false
set_option linter.unusedSimpArgs false
namespace Go.Proofs
open Go Go.Q
/-- a zero ledger in a variable takes one that is given back -/
theorem led_give {w0 wj : World} {x z : Nat} {l : LV} {S0 S : List Nat} (h : LVar w0 wj x l S0 S) (hz : wj.heap[z]? = some (.cells [.slice none 0 0, .slice none 0 0, .slice none 0 0, .int .i64 0].toArray 60)) (hz0 : w0.heap.size ≤ z) (hzS : z ∉ S)
    {K : Value → World → Prop} (hK : ∀ v' w', Kp [] w0 w' → LedS w' v' l S → K v' w') :
    ldn 4 (.pointer (some ⟨x, 0, none⟩)) wj fun t67 => stn 4 (.pointer (some ⟨z, 0, none⟩)) t67 wj fun w => qG Try.prog (do loadVar 60 (← asAddr (.pointer (some ⟨z, 0, none⟩)))) w fun r4 => K r4 w := by
  obtain ⟨a, b, c, h1, h2⟩ := h.ex
  exact led_ret h1 hz h2 hzS fun w' hk hv => hK _ w' (h.kp.trans hk fun q hq hlt => by simp at hq; omega) hv
theorem refExpire_spec {w : World} {v : Value} {l : LV} {S0 : List Nat} (hs : Sorted l.st) (hv : LedS w v l S0) (hl : l.st.length + l.ho.length < 2 ^ 18) (due : Int) {K : Value → World → Prop}
    (hK : ∀ v' w' S', Kp [] w w' → LedS w' v' (expireL l due 0 l.ho.length) S' → (∀ q ∈ S', q ∈ S0 ∨ w.heap.size ≤ q) → K v' w') : callG Try.prog 116 #[v, .int .i64 due] w K := by
  refine ref07_expire_call ?_
  have hlt0 := hv.lt
  unfold ref07_expire ref07_expire_s7
  refine argVar hv fun x w1 c1 => ?_
  rw [newG_k, zcLed]
  obtain ⟨z, hz⟩ : ∃ z, z = w1.heap.size := ⟨_, rfl⟩
  obtain ⟨w3, hw3⟩ := ex_w (w' := w1.alloc (.cells [.slice none 0 0, .slice none 0 0, .slice none 0 0, .int .i64 0].toArray 60))
  have hk3 : Kp [] w1 w3 := by rw [hw3]; exact kp_alloc
  have hz3 : w3.heap[z]? = some (.cells [.slice none 0 0, .slice none 0 0, .slice none 0 0, .int .i64 0].toArray 60) := by rw [hw3, hz]; exact heap_new
  rw [← hw3, ← hz]
  have c3 := c1.keep hk3
  have hs1 := c1.kp.size
  have hzl := lt_of_blk hz3
  have hxz : x ≠ z := by
    obtain ⟨_, _, _, h1, _⟩ := c1.ex
    have := lt_of_blk h1
    omega
  obtain ⟨E, hE⟩ : ∃ E, E = expireL l due 0 l.ho.length := ⟨_, rfl⟩
  rw [← hE] at hK
  unfold ref07_expire_s6 ref07_expire_L5
  refine loop_inv (fun m xs wi => ∃ (i : Nat) (li : LV) (Si : List Nat), i ≤ l.ho.length ∧ m = l.ho.length - i ∧ xs = [.int .i64 due, .pointer (some ⟨x, 0, none⟩), .pointer (some ⟨z, 0, none⟩), .int .i64 (i : Nat)] ∧ E = expireL li due i (l.ho.length - i) ∧
      Sorted li.st ∧ li.st.length ≤ l.st.length + i ∧ li.ho.length = l.ho.length ∧ LVar w wi x li S0 Si ∧ z ∉ Si ∧ w3.heap.size ≤ wi.heap.size ∧ wi.heap[z]? = some (.cells [.slice none 0 0, .slice none 0 0, .slice none 0 0, .int .i64 0].toArray 60)) ?_ (m := l.ho.length)
    ⟨0, l, S0, by omega, rfl, rfl, hE, hs, by omega, rfl, c3, fun hm => by have := hlt0 z hm; omega, Nat.le_refl _, hz3⟩
  rintro m N xs wi ⟨i, li, Si, hi, rfl, rfl, he, hsi, hsl, hho, ci, hzS, hszi, hzi⟩ hN
  have hiw : IntKind.i64.wrap ((i : Int) + 1) = ((i + 1 : Nat) : Int) := by rw [w64 (by omega) (by omega)]; simp
  obtain ⟨a, b, c, hx, ra, rb, rc⟩ := ci.rd
  unfold ref07_expire_L5F ref07_expire_s4
  simp [-getElem?_pos, -Array.all_eq_true, -Array.getElem?_eq_getElem, -List.length_flatten, List.getElem?_cons_zero, List.getElem?_cons_succ, hx, rb.lenL, hho]
  refine ⟨fun hlt => ?_, fun hge => ?_⟩
  · have hlti : i < li.ho.length := by omega
    rw [show l.ho.length - i = (l.ho.length - (i + 1)) + 1 by omega] at he
    unfold expireL at he
    have hg : li.ho.getD i hZ = li.ho[i] := by simp only [List.getD, List.getElem?_eq_getElem hlti, Option.getD_some]
    simp only [hg] at he
    obtain ⟨pp, i1, i2⟩ := rd_hold rb hlti
    unfold ref07_expire_s3
    simp [-getElem?_pos, -Array.all_eq_true, -Array.getElem?_eq_getElem, -List.length_flatten, List.getElem?_cons_zero, List.getElem?_cons_succ, hx, -ldn_p, -stn_p, -newG_k]
    rw [i1, i2]
    refine boxHold (o := li.ho[i]) (by kernel_rfl) fun p w5 hp hh5 hk5 => ?_
    have hh5' := hh5
    unfold hC at hh5'
    have c5 := ci.keep hk5
    have hz5 := hk5.get hzi (by simp)
    have hs5 := hk5.size
    have hno : dueL li.ho[i] due = false → ref07_expire_s2 K N (.int .i64 due) (.pointer (some ⟨x, 0, none⟩)) (.pointer (some ⟨z, 0, none⟩)) (.int .i64 i) (.pointer (some ⟨p, 0, none⟩)) (.bool false) w5 := by
      intro hd
      rw [if_neg (by simp [hd])] at he
      unfold ref07_expire_s2 ref07_expire_s1
      simp [-getElem?_pos, -Array.all_eq_true, -Array.getElem?_eq_getElem, -List.length_flatten, List.getElem?_cons_zero, List.getElem?_cons_succ, hiw]
      exact hN (l.ho.length - (i + 1)) _ w5 (by omega) ⟨i + 1, li, Si, by omega, rfl, by simp, he, hsi, by omega, hho, c5, hzS, by omega, hz5⟩
    have hyes : dueL li.ho[i] due = true → ref07_expire_s2 K N (.int .i64 due) (.pointer (some ⟨x, 0, none⟩)) (.pointer (some ⟨z, 0, none⟩)) (.int .i64 i) (.pointer (some ⟨p, 0, none⟩)) (.bool true) w5 := by
      intro hd
      rw [if_pos hd] at he
      unfold ref07_expire_s2
      obtain ⟨vx, hld, hvx⟩ := c5.ld
      simp [-getElem?_pos, -Array.all_eq_true, -Array.getElem?_eq_getElem, -List.length_flatten, List.getElem?_cons_zero, List.getElem?_cons_succ, -ldn_p, -stn_p, -newG_k]
      rw [hld]
      simp [-getElem?_pos, -Array.all_eq_true, -Array.getElem?_eq_getElem, -List.length_flatten, List.getElem?_cons_zero, List.getElem?_cons_succ, hh5', neg_of, zcStock, str_nil, bld_done, bld_if, offAt, putAt, -ldn_p, -stn_p, -newG_k]
      have hheld := refHeld_spec hsi hvx (by omega) ⟨li.ho[i].sku, li.ho[i].loc, 0, 0⟩ (w64i (-li.ho[i].q)) (K := fun t42 w => callG Try.prog 126 #[t42, .int .i64 i, .int .i64 2] w fun t44 w => stn 4 (.pointer (some ⟨x, 0, none⟩)) t44 w fun w => ref07_expire_s1 K N (.int .i64 due) (.pointer (some ⟨x, 0, none⟩)) (.pointer (some ⟨z, 0, none⟩)) (.int .i64 i) w) fun v6 w6 S6 hk6 hv6 hS6 => ?_
      · exact hheld
      simp only at hv6
      refine refState_spec hv6 (by show li.ho.length < _; omega) (k := i) (by show i < li.ho.length; exact hlti) 2 fun v7 w7 S7 hk7 hv7 hS7 => ?_
      have k57 := hk6.trans' hk7
      have hs6 := hk6.size
      have hS7' : ∀ q ∈ S7, q ∈ Si ∨ w5.heap.size ≤ q := fun q hq => by
        rcases hS7 q hq with h | h
        · exact hS6 q h
        · exact .inr (by omega)
      refine c5.st k57 hv7 hS7' fun w8 hk8 c8 => ?_
      unfold ref07_expire_s1
      simp [-getElem?_pos, -Array.all_eq_true, -Array.getElem?_eq_getElem, -List.length_flatten, List.getElem?_cons_zero, List.getElem?_cons_succ, hiw]
      have hz8 := hk8.get (k57.get hz5 (by simp)) (by simpa using Ne.symm hxz)
      have hs8 := hk8.size
      have hs57 := k57.size
      refine hN (l.ho.length - (i + 1)) _ w8 (by omega) ⟨i + 1, _, S7, by omega, rfl, by simp, he, held_sorted hsi _ _ _, ?_, ?_, c8, fun hm => ?_, by omega, hz8⟩
      · have := putS_len li.st { findS li.st li.ho[i].sku li.ho[i].loc with held := w64i ((findS li.st li.ho[i].sku li.ho[i].loc).held + w64i (-li.ho[i].q)) }
        show (putS li.st _).length ≤ _
        omega
      · simp [stateL, heldL, hho]
      · rcases hS7' z hm with h | h
        · exact hzS h
        · omega
    simp [-getElem?_pos, -Array.all_eq_true, -Array.getElem?_eq_getElem, -List.length_flatten, List.getElem?_cons_zero, List.getElem?_cons_succ, hh5', -ldn_p, -stn_p, -newG_k]
    refine ⟨fun e0 => ⟨fun e1 => ?_, fun e1 => ?_⟩, fun e0 => ?_⟩
    · by_cases e2 : li.ho[i].due ≤ due
      · rw [decide_eq_true e2]
        exact hyes (by simp [dueL, e0, e1, e2])
      · rw [decide_eq_false e2]
        exact hno (by simp [dueL, e2])
    · exact hno (by simp [dueL]; omega)
    · exact hno (by simp [dueL, e0])
  · have hie : i = l.ho.length := by omega
    subst hie
    rw [Nat.sub_self] at he
    unfold ref07_expire_s0
    have he' : E = li := by rw [he]; rfl
    rw [he'] at hK
    exact led_give ci hzi (by omega) hzS fun v' w' hk hv' => hK v' w' Si hk hv' ci.new
end Go.Proofs

/- Layer 7: the document's ledger: over. -/
set_option linter.unusedVariables false
set_option linter.unusedSimpArgs false
namespace Go.Proofs
open Go Go.Q
theorem rd_hold4 {w : World} {v : Value} {ho : List HV} (h : Rd w v 6 (ho.map hC)) {i : Nat} (hi : i < ho.length) : ∃ p, (∀ K : Value → Prop, ia 6 v (.int .i64 i) K = K p) ∧ (∀ K : Value → Prop, ldn 6 p w K = K (hA ho[i])) ∧ ∀ K : Value → Prop, fa 4 p (fun q => ld1 q w K) = K (.int .i64 ho[i].st) := by
  obtain ⟨p, h1, h2, h3⟩ := h.get (i := i) (by simpa using hi)
  refine ⟨p, fun K => h1 .i64 K, fun K => ?_, fun K => ?_⟩
  · rw [h2 K]
    simp [hC, hA]
  · rw [h3 4 (by simp [hC])]
    simp [hC]
/-- a ledger that a call gave is given back by the variable z -/
theorem led_put {wj : World} {z : Nat} {v : Value} {l : LV} {S : List Nat} (hz : wj.heap[z]? = some (.cells [.slice none 0 0, .slice none 0 0, .slice none 0 0, .int .i64 0].toArray 60))
    (hv : LedS wj v l S) (hzS : z ∉ S) {K : Value → World → Prop} (hK : ∀ w', Kp [z] wj w' → LedS w' v l S → K v w') :
    stn 4 (.pointer (some ⟨z, 0, none⟩)) v wj fun w => qG Try.prog (do loadVar 60 (← asAddr (.pointer (some ⟨z, 0, none⟩)))) w fun r4 => K r4 w := by
  obtain ⟨a, b, c, SA, SB, SC, rfl, h1, h2, h3, _⟩ := hv.ex
  have hone := LedAt.ones (l := l) ⟨_, h1⟩ ⟨_, h2⟩ ⟨_, h3⟩
  rw [stAll (k := 4) hz rfl rfl hone, lvLedw (heap_self (live_of hz)) rfl]
  have hk : Kp [z] wj (setBlk wj z (.cells #[a, b, c, .int .i64 l.ops] 60)) := (Kp.refl _ wj).setBlk (.inl (by simp)) _
  exact hK _ hk (hv.keep hk fun q hq => by simp; intro h; exact hzS (h ▸ hq))
theorem refOver_spec {w : World} {v : Value} {l : LV} {S0 : List Nat} (hs : Sorted l.st) (hv : LedS w v l S0) (hl : l.st.length + l.ho.length < 2 ^ 18) (hlm : l.mo.length < 2 ^ 18) (o : OpV) (hid : 1 ≤ o.id) {K : Value → World → Prop}
    (hK : ∀ v' w' S', Kp [] w w' → LedS w' v' (overL l o).1 S' → (∀ q ∈ S', q ∈ S0 ∨ w.heap.size ≤ q) → K (.tuple #[v', .int .i64 (overL l o).2]) w') : callG Try.prog 115 #[v, .agg (opC o).toArray] w K := by
  refine ref07_over_call ?_
  have hlt0 := hv.lt
  unfold ref07_over ref07_over_s1
  refine argVar hv fun x w1 c1 => ?_
  refine argBox (cs := opC o) fun y w2 hy hh2 hk2 => ?_
  rw [newG_k, zcLed]
  obtain ⟨z, hz⟩ : ∃ z, z = w2.heap.size := ⟨_, rfl⟩
  obtain ⟨w3, hw3⟩ := ex_w (w' := w2.alloc (.cells [.slice none 0 0, .slice none 0 0, .slice none 0 0, .int .i64 0].toArray 60))
  have hk3 : Kp [] w2 w3 := by rw [hw3]; exact kp_alloc
  have hz3 : w3.heap[z]? = some (.cells [.slice none 0 0, .slice none 0 0, .slice none 0 0, .int .i64 0].toArray 60) := by rw [hw3, hz]; exact heap_new
  rw [← hw3, ← hz]
  have c3 := (c1.keep hk2).keep hk3
  have hs1 := c1.kp.size
  have hs2 := hk2.size
  have hzl := lt_of_blk hz3
  have hzS : z ∉ S0 := fun hm => by have := hlt0 z hm; omega
  have hy3 := hk3.get hh2 (by simp)
  unfold opC at hy3
  have hxz : x ≠ z := by
    obtain ⟨_, _, _, h1, _⟩ := c1.ex
    have := lt_of_blk h1
    omega
  obtain ⟨a, b, c, hx, ra, rb, rc⟩ := c3.rd
  have h71 : (o.id > l.ho.length ∨ (holdAt l o.id).st ≠ 0) → ldn 4 (.pointer (some ⟨x, 0, none⟩)) w3 fun t67 => stn 4 (.pointer (some ⟨z, 0, none⟩)) t67 w3 fun w => qG Try.prog (do loadVar 60 (← asAddr (.pointer (some ⟨z, 0, none⟩)))) w fun r4 => K (.tuple #[r4, .int .i64 71]) w := by
    intro h
    have e : overL l o = (l, 71) := by unfold overL; rw [if_pos h]
    rw [e] at hK
    exact led_give (K := fun v w => K (.tuple #[v, .int .i64 71]) w) c3 hz3 (by omega) hzS fun v' w' hk hv' => hK v' w' S0 hk hv' fun q hq => .inl hq
  simp [-getElem?_pos, -Array.all_eq_true, -Array.getElem?_eq_getElem, -List.length_flatten, List.getElem?_cons_zero, List.getElem?_cons_succ, hx, hy3, rb.lenL, -ldn_p, -stn_p, -newG_k]
  refine ⟨fun h1 => h71 (.inl (by omega)), fun h1 => ?_⟩
  obtain ⟨k, hk⟩ : ∃ k, k = (o.id - 1).toNat := ⟨_, rfl⟩
  have hiw : IntKind.i64.wrap (o.id - 1) = (k : Nat) := by rw [w64 (by omega) (by omega)]; omega
  have hlti : k < l.ho.length := by omega
  have hg : holdAt l o.id = l.ho[k] := by simp only [holdAt, ← hk, List.getD, List.getElem?_eq_getElem hlti, Option.getD_some]
  obtain ⟨h, hh⟩ : ∃ h, h = l.ho[k] := ⟨_, rfl⟩
  obtain ⟨pp, i1, i2, i3⟩ := rd_hold4 rb hlti
  rw [← hh] at hg i2 i3
  rw [hiw, i1, i3]
  simp [-getElem?_pos, -Array.all_eq_true, -Array.getElem?_eq_getElem, -List.length_flatten, List.getElem?_cons_zero, List.getElem?_cons_succ, -ldn_p, -stn_p, -newG_k]
  refine ⟨fun h2 => h71 (.inr (by rw [hg]; exact h2)), fun h2 => ?_⟩
  have eO : overL l o = if o.k = 4 then (stateL (heldL l h.sku h.loc (w64i (-h.q))) k 2, 0) else (movedL (stateL (heldL l h.sku h.loc (w64i (-h.q))) k 1) h.sku h.loc (w64i (-h.q)) o.k h.id, 0) := by
    unfold overL
    rw [if_neg (by rw [hg]; omega), hg, ← hk]
  unfold ref07_over_s0
  simp [-getElem?_pos, -Array.all_eq_true, -Array.getElem?_eq_getElem, -List.length_flatten, List.getElem?_cons_zero, List.getElem?_cons_succ, hx, hy3, -ldn_p, -stn_p, -newG_k]
  rw [hiw, i1, i2]
  refine boxHold (o := h) (by kernel_rfl) fun p w5 hp hh5 hk5 => ?_
  have hh5' := hh5
  unfold hC at hh5'
  have c5 := c3.keep hk5
  simp [-getElem?_pos, -Array.all_eq_true, -Array.getElem?_eq_getElem, -List.length_flatten, List.getElem?_cons_zero, List.getElem?_cons_succ, hh5', neg_of, zcStock, str_nil, bld_done, bld_if, offAt, putAt, -ldn_p, -stn_p, -newG_k]
  refine boxStock (o := ⟨h.sku, h.loc, 0, 0⟩) rfl fun t w6 ht hh6 hk6 => ?_
  have c6 := c5.keep hk6
  have hp6 := hk6.get hh5' (by simp)
  have hy6 := (hk5.trans' hk6).get hy3 (by simp)
  have hz6 := (hk5.trans' hk6).get hz3 (by simp)
  obtain ⟨vx, hld, hvx⟩ := c6.ld
  rw [hld, ldStock hh6]
  simp [-getElem?_pos, -Array.all_eq_true, -Array.getElem?_eq_getElem, -List.length_flatten, List.getElem?_cons_zero, List.getElem?_cons_succ, hp6, neg_of, -ldn_p, -stn_p, -newG_k]
  refine refHeld_spec hs hvx (by omega) ⟨h.sku, h.loc, 0, 0⟩ (w64i (-h.q)) fun v7 w7 S7 hk7 hv7 hS7 => ?_
  refine c6.st hk7 hv7 hS7 fun w8 hk8 c8 => ?_
  have hx1 : x < w1.heap.size := by
    obtain ⟨_, _, _, h1, _⟩ := c1.ex
    exact lt_of_blk h1
  have hs5 := hk5.size
  have hs3 := hk3.size
  have hy8 := hk8.get (hk7.get hy6 (by simp)) (by simp; omega)
  have hp8 := hk8.get (hk7.get hp6 (by simp)) (by simp; omega)
  have ht8 := hk8.get (hk7.get hh6 (by simp)) (by simp; omega)
  have hz8 := hk8.get (hk7.get hz6 (by simp)) (by simp; omega)
  simp [-getElem?_pos, -Array.all_eq_true, -Array.getElem?_eq_getElem, -List.length_flatten, List.getElem?_cons_zero, List.getElem?_cons_succ, hy8, hp8, -ldn_p, -stn_p, -newG_k]
  refine ⟨fun h4 => ?_, fun h4 => ?_⟩
  · obtain ⟨v8, hld8, hv8⟩ := c8.ld
    rw [hld8, hiw]
    rw [eO, if_pos h4] at hK
    refine refState_spec hv8 (by show l.ho.length < _; omega) (k := k) (by show k < l.ho.length; exact hlti) 2 fun v9 w9 S9 hk9 hv9 hS9 => ?_
    have hs8 := c8.kp.size
    have hS9' : ∀ q ∈ S9, q ∈ S0 ∨ w.heap.size ≤ q := fun q hq => by
      rcases hS9 q hq with e | e
      · exact c8.new q e
      · exact .inr (by omega)
    have hz9 := hk9.get hz8 (by simp)
    have hs6 := hk6.size
    have hs7 := hk7.size
    have hs8' := hk8.size
    refine led_put (K := fun v w => K (.tuple #[v, .int .i64 0]) w) hz9 hv9 (fun hm => ?_) fun w' hk' hv' => hK v9 w' S9 ((c8.kp.trans' hk9).trans hk' fun q hq hlt => by simp at hq; omega) hv' hS9'
    rcases hS9 z hm with e | e
    · rcases hS7 z e with e | e
      · exact hzS e
      · omega
    · omega
  · have c8d := c8.keep kp_drew
    obtain ⟨v8, hld8, hv8⟩ := c8d.ld
    have ht8d := kp_drew.get ht8 (by simp)
    have hp8d := kp_drew.get hp8 (by simp)
    have hy8d := kp_drew.get hy8 (by simp)
    have hz8d := kp_drew.get hz8 (by simp)
    rw [hld8, ldStock ht8d, hiw]
    rw [eO, if_neg h4] at hK
    simp [-getElem?_pos, -Array.all_eq_true, -Array.getElem?_eq_getElem, -List.length_flatten, List.getElem?_cons_zero, List.getElem?_cons_succ, neg_of, move_zc, str_nil, bld_done, bld_if, offAt, putAt, -ldn_p, -stn_p, -newG_k]
    refine refState_spec hv8 (by show l.ho.length < _; omega) (k := k) (by show k < l.ho.length; exact hlti) 1 fun v9 w9 S9 hk9 hv9 hS9 => ?_
    have ht9 := hk9.get ht8d (by simp)
    have hp9 := hk9.get hp8d (by simp)
    have hy9 := hk9.get hy8d (by simp)
    have hz9 := hk9.get hz8d (by simp)
    rw [ldStock ht9]
    simp [-getElem?_pos, -Array.all_eq_true, -Array.getElem?_eq_getElem, -List.length_flatten, List.getElem?_cons_zero, List.getElem?_cons_succ, hp9, hy9, neg_of, -ldn_p, -stn_p, -newG_k]
    refine ⟨show (Op.unary .neg (.int .i64 h.q)).run Try.prog w9 = .ok (.int .i64 (IntKind.i64.wrap (-h.q))) w9 by rw [← Int.zero_sub]; rfl, ?_⟩
    have hln := putS_len l.st { findS l.st h.sku h.loc with held := w64i ((findS l.st h.sku h.loc).held + w64i (-h.q)) }
    have hsz8 := c8d.kp.size
    have hsz9 := hk9.size
    have hss : Sorted (stateL (heldL l h.sku h.loc (w64i (-h.q))) k 1).st := held_sorted hs h.sku h.loc (w64i (-h.q))
    refine refMoved_spec hss hv9 (by show (putS l.st _).length < _; omega) (by show l.mo.length < _; omega) ⟨h.sku, h.loc, 0, 0⟩ (w64i (-h.q)) ⟨0, [], [], 0, o.k, h.id⟩ fun v10 w10 S10 hk10 hv10 hS10 => ?_
    have hz10 := hk10.get hz9 (by simp)
    have hs6 := hk6.size
    have hs7 := hk7.size
    have hs8' := hk8.size
    have hdr : w8.drew.heap.size = w8.heap.size := rfl
    have hS10' : ∀ q ∈ S10, q ∈ S0 ∨ w.heap.size ≤ q := fun q hq => by
      rcases hS10 q hq with e | e
      · rcases hS9 q e with e | e
        · exact c8.new q e
        · exact .inr (by omega)
      · exact .inr (by omega)
    refine led_put (K := fun v w => K (.tuple #[v, .int .i64 0]) w) hz10 hv10 (fun hm => ?_) fun w' hk' hv' => hK v10 w' S10 (((c8d.kp.trans' hk9).trans' hk10).trans hk' fun q hq hlt => by simp at hq; omega) hv' hS10'
    rcases hS10 z hm with e | e
    · rcases hS9 z e with e | e
      · rcases hS7 z e with e | e
        · exact hzS e
        · omega
      · omega
    · omega
end Go.Proofs

/- Layer 7: a ledger behind an operation. -/
set_option linter.unusedVariables false
set_option linter.unusedSimpArgs false
namespace Go.Proofs
open Go Go.Q
theorem run_max3 {P : Program} {ts : Array TypeId} {t : TypeId} {k : IntKind} {a b c : Int} {w : World} : (Builtin.max_ ts t #[.int k a, .int k b, .int k c]).run P w = .ok (.int k (max (max a b) c)) w := by
  simp only [Builtin.max_, List.foldlM_cons, List.foldlM_nil, Builtin.max2, pure_bind]
  show Result.ok _ _ = _
  congr 2; omega
theorem ok_doH {l : LV} {o : OpV} (hm : May l) (hq : rngI o.q) (ho : o.ok = true) : DoH l o := by
  refine ⟨hm, hq, ?_, ?_, fun h => ?_⟩
  all_goals
    unfold OpV.ok at ho
    simp only at ho
  · by_cases h1 : o.k = 1
    · omega
    by_cases h2 : o.k = 2
    · omega
    by_cases h3 : o.k = 3 ∨ o.k = 4
    · omega
    by_cases h5 : o.k = 5
    · omega
    by_cases h6 : o.k = 6
    · omega
    by_cases h7 : o.k = 7
    · omega
    simp [h1, h2, h3, h5, h6, h7] at ho
  · by_cases h1 : o.k = 1
    · omega
    by_cases h2 : o.k = 2
    · omega
    by_cases h3 : o.k = 3 ∨ o.k = 4
    · omega
    by_cases h5 : o.k = 5
    · omega
    by_cases h6 : o.k = 6
    · omega
    by_cases h7 : o.k = 7
    · omega
    simp [h1, h2, h3, h5, h6, h7] at ho
  · have h1 : ¬ o.k = 1 := by omega
    have h2 : ¬ o.k = 2 := by omega
    simp [h1, h2, h] at ho
    exact ho.2.2.2.1
theorem bld_whole {n : Nat} {z cs : Array Value} (hz : z.size = n) (hc : cs.size = n) {K : Value → Prop} : bld [(0, n)] z #[(0, .agg cs)] K = K (.agg cs) := by
  unfold bld
  show (match Instr.fill _ z [(0, Value.agg cs)] with | some cs => K (.agg cs) | none => False) = _
  have hc' : (Value.cells (.agg cs)).size = n := hc
  rw [fill_step (off := 0) (size := n) rfl hc' (by omega)]
  have : splice z 0 (Value.cells (.agg cs)) = cs := splice_all (by rw [hz]; exact hc.symm)
  rw [this]
  rfl
theorem step_spec {w : World} {v : Value} {l : LV} {S0 : List Nat} (hm : May l) (hv : LedS w v l S0) (o : OpV) (hq : rngI o.q) {K : Value → World → Prop}
    (hK : ∀ v' w' S', Kp [] w w' → LedS w' v' (stepL l o).1 S' → (∀ q ∈ S', q ∈ S0 ∨ w.heap.size ≤ q) → K (.tuple #[v', .int .i64 (stepL l o).2]) w') : callG Try.prog 67 #[v, .agg (opC o).toArray] w K := by
  refine ledger_step_call ?_
  have hlt0 := hv.lt
  have hfew := hm.few
  simp only [fullL, decide_eq_false_iff_not, not_or] at hfew
  unfold ledger_step ledger_step_s1
  refine argVar hv fun x2 w1 c1 => ?_
  refine argBox (cs := opC o) fun y w2 hy hh2 hk2 => ?_
  rw [newG_k, zcLed]
  obtain ⟨z, hz⟩ : ∃ z, z = w2.heap.size := ⟨_, rfl⟩
  obtain ⟨w3, hw3⟩ := ex_w (w' := w2.alloc (.cells [.slice none 0 0, .slice none 0 0, .slice none 0 0, .int .i64 0].toArray 60))
  have hk3 : Kp [] w2 w3 := by rw [hw3]; exact kp_alloc
  have hz3 : w3.heap[z]? = some (.cells [.slice none 0 0, .slice none 0 0, .slice none 0 0, .int .i64 0].toArray 60) := by rw [hw3, hz]; exact heap_new
  rw [← hw3, ← hz]
  have c3 := (c1.keep hk2).keep hk3
  have hs1 := c1.kp.size
  have hs2 := hk2.size
  have hzl := lt_of_blk hz3
  have hzS : z ∉ S0 := fun hm => by have := hlt0 z hm; omega
  have hy3 := hk3.get hh2 (by simp)
  have hx2l : x2 < w1.heap.size := by
    obtain ⟨_, _, _, h1, _⟩ := c1.ex
    exact lt_of_blk h1
  have hx20 := c1.x0
  have give : ∀ (e : Int) w', LVar w w' x2 l S0 S0 → w'.heap[z]? = some (.cells [.slice none 0 0, .slice none 0 0, .slice none 0 0, .int .i64 0].toArray 60) → stepL l o = (l, e) →
      ldn 4 (.pointer (some ⟨x2, 0, none⟩)) w' fun t67 => stn 4 (.pointer (some ⟨z, 0, none⟩)) t67 w' fun w => qG Try.prog (do loadVar 60 (← asAddr (.pointer (some ⟨z, 0, none⟩)))) w fun r4 => K (.tuple #[r4, .int .i64 e]) w := by
    intro e w' cx hzx he
    rw [he] at hK
    exact led_give (K := fun v w => K (.tuple #[v, .int .i64 e]) w) cx hzx (by omega) hzS fun v' w' hk hv' => hK v' w' S0 hk hv' fun q hq => .inl hq
  rw [ldAll (k := 7) hy3 rfl]
  refine CheckOp_spec o fun w4 hk4 => ?_
  have c4 := c3.keep hk4
  have hz4 := hk4.get hz3 (by simp)
  have hy4 := hk4.get hy3 (by simp)
  cases hok : o.ok with
  | false =>
    simp only [Bool.false_eq_true, if_false, bq_neq, bV_b, decide_eq_true_eq, decide_eq_false_iff_not]
    refine ⟨fun _ => ?_, fun h => absurd (by decide) h⟩
    exact give 1 w4 c4 hz4 (by unfold stepL; rw [if_pos hok])
  | true =>
    have hdo := ok_doH hm hq hok
    simp only [if_true, bq_neq, bV_b, decide_eq_true_eq, decide_eq_false_iff_not]
    refine ⟨fun h => absurd rfl h, fun _ => ?_⟩
    obtain ⟨a, b, c, hx4, hl4⟩ := c4.ex
    obtain ⟨a', b', c', SA0, SB0, SC0, e4, ra0, rb0, rc0, _⟩ := hl4.ex
    simp only [Value.agg.injEq, Array.mk.injEq, List.cons.injEq] at e4
    obtain ⟨rfl, rfl, rfl, _⟩ := e4
    rw [ldAll (k := 4) hx4 rfl, bld_whole (n := 4) (by kernel_rfl) rfl]
    rw [newG_k]
    obtain ⟨x, hx⟩ : ∃ x, x = w4.heap.size := ⟨_, rfl⟩
    obtain ⟨w5, hw5⟩ : ∃ w5, w5 = w4.alloc (.cells #[a, b, c, .int .i64 l.ops] 126) := ⟨_, rfl⟩
    have hk5 : Kp [] w4 w5 := by rw [hw5]; exact kp_alloc
    have hx5 : w5.heap[x]? = some (.cells #[a, b, c, .int .i64 l.ops] 126) := by rw [hw5, hx]; exact heap_new
    have hw5' : w4.alloc (.cells (Value.cells (.agg #[a, b, c, .int .i64 l.ops])) 126) = w5 := hw5.symm
    rw [hw5', ← hx]
    obtain ⟨W, hW⟩ : ∃ W, W = w5.drew := ⟨_, rfl⟩
    have kW : Kp [] w4 W := by rw [hW]; exact hk5.drew
    have hxW : W.heap[x]? = some (.cells #[a, b, c, .int .i64 l.ops] 126) := by rw [hW]; exact hx5
    rw [← hW]
    have r2 : ∀ w6, Kp [] W w6 → ∀ j v, (#[a, b, c, .int .i64 l.ops] : Array Value)[j]? = some v → ∀ K : Value → Prop, ld1 (.pointer (some ⟨x2, j, none⟩)) w6 K = K v := fun w6 k6 j v hj K => ldF ((kW.trans' k6).get hx4 (by simp)) hj
    simp only [fa_p, nk_p, Nat.add_zero, Nat.zero_add]
    rw [r2 W (Kp.refl _ _) 0 a rfl, r2 W (Kp.refl _ _) 1 b rfl, r2 W (Kp.refl _ _) 2 c rfl]
    have kw0 : Kp [] w W := c4.kp.trans' kW
    refine cloneStock_spec (l := l.st) (Rd.keep ⟨_, ra0⟩ kW) (by omega) fun va w6 fa => ?_
    rw [r2 w6 fa.kp 2 c rfl, r2 w6 fa.kp 1 b rfl]
    refine ⟨rfl, rfl, cloneHold_spec (l := l.ho) (Rd.keep ⟨_, rb0⟩ (kW.trans' fa.kp)) (by omega) fun vb w7 fb => ?_⟩
    have k67 := fa.kp.trans' fb.kp
    rw [r2 w7 k67 2 c rfl]
    refine ⟨rfl, cloneMove_spec (l := l.mo) (Rd.keep ⟨_, rc0⟩ (kW.trans' k67)) (by omega) fun vc w8 fc => ?_⟩
    have kW8 := k67.trans' fc.kp
    obtain ⟨SA, ra, na⟩ := fa.ex
    obtain ⟨SB, rb, nb⟩ := fb.ex
    obtain ⟨SC, rc, nc⟩ := fc.ex
    have ra8 := ra.keep (fb.kp.trans' fc.kp) (by simp)
    have rb8 := rb.keep fc.kp (by simp)
    have hxW8 := kW8.get hxW (by simp)
    have hWx := lt_of_blk hxW
    have s6 := fa.kp.size
    have s7 := fb.kp.size
    have la := ra.lt
    have lb := rb.lt
    have lx := live_of hxW8
    have o1 : one va = true := fa.one
    have o2 : one vb = true := fb.one
    have o3 : one vc = true := fc.one
    rw [stF hxW8 (by simp) o1]
    rw [stF (heap_self lx) (by simp) o2, setBlk2]
    rw [stF (heap_self lx) (by simp) o3, setBlk2]
    obtain ⟨w9, hw9⟩ : ∃ w9, w9 = setBlk w8 x (.cells #[va, vb, vc, .int .i64 l.ops] 126) := ⟨_, rfl⟩
    have hw9' : setBlk w8 x (.cells (((#[a, b, c, .int .i64 l.ops].setIfInBounds 0 va).setIfInBounds 1 vb).setIfInBounds 2 vc) 126) = w9 := by rw [hw9]; rfl
    have k89 : Kp [x] w8 w9 := by rw [hw9]; exact (Kp.refl _ _).setBlk (.inl (by simp)) _
    have hx9 : w9.heap[x]? = some (.cells #[va, vb, vc, .int .i64 l.ops] 126) := by rw [hw9]; exact heap_self lx
    rw [hw9']
    have xA : ∀ q ∈ SA, q ≠ x := fun q hq => by have := na q hq; omega
    have xB : ∀ q ∈ SB, q ≠ x := fun q hq => by have := nb q hq; omega
    have xC : ∀ q ∈ SC, q ≠ x := fun q hq => by have := nc q hq; omega
    have sk := c4.kp.size
    have hx0 : w.heap.size ≤ x := by omega
    have kw9 : Kp [] w w9 := (kw0.trans' kW8).trans k89 fun q hq hlt => by simp at hq; omega
    have swW := kw0.size
    have s5 := hk5.size
    have hW9 : WorkAt w w9 x l (x :: blksC [⟨va, 4, l.st.map sC, SA⟩, ⟨vb, 6, l.ho.map hC, SB⟩, ⟨vc, 6, l.mo.map hC, SC⟩]) := by
      refine ⟨⟨va, vb, vc, SA, SB, SC, ⟨hx9, fun i hi => ?_, ?_⟩, rfl⟩, fun q hq => ?_, kw9⟩
      · rcases (by simp at hi; omega : i = 0 ∨ i = 1 ∨ i = 2) with rfl | rfl | rfl
        · exact ra8.keep k89 fun q hq => by simpa using xA q hq
        · exact rb8.keep k89 fun q hq => by simpa using xB q hq
        · exact rc.keep k89 fun q hq => by simpa using xC q hq
      · simp only [blksC, List.map_cons, List.map_nil, List.flatten_cons, List.flatten_nil, List.append_nil]
        refine List.nodup_cons.2 ⟨fun hm => ?_, List.nodup_append.2 ⟨ra.nodup, List.nodup_append.2 ⟨rb.nodup, rc.nodup, fun q hq r hr he => ?_⟩, fun q hq r hr he => ?_⟩⟩
        · simp only [List.mem_append] at hm
          rcases hm with h | h | h
          · exact xA x h rfl
          · exact xB x h rfl
          · exact xC x h rfl
        · subst he
          have := lb q hq
          have := nc q hr
          omega
        · subst he
          have := la q hq
          simp only [List.mem_append] at hr
          rcases hr with h | h
          · have := nb q h; omega
          · have := nc q h; omega
      · simp only [blksC, List.map_cons, List.map_nil, List.flatten_cons, List.flatten_nil, List.append_nil, List.mem_cons, List.mem_append] at hq
        rcases hq with rfl | h | h | h
        · omega
        · have := na q h; omega
        · have := nb q h; omega
        · have := nc q h; omega
    obtain ⟨SW, hSW⟩ : ∃ SW, SW = x :: blksC [⟨va, 4, l.st.map sC, SA⟩, ⟨vb, 6, l.ho.map hC, SB⟩, ⟨vc, 6, l.mo.map hC, SC⟩] := ⟨_, rfl⟩
    rw [← hSW] at hW9
    have hnW : ∀ q ∈ SW, w4.heap.size ≤ q := fun q hq => by
      rw [hSW] at hq
      simp only [blksC, List.map_cons, List.map_nil, List.flatten_cons, List.flatten_nil, List.append_nil, List.mem_cons, List.mem_append] at hq
      rcases hq with rfl | h | h | h
      · omega
      · have := na q h; omega
      · have := nb q h; omega
      · have := nc q h; omega
    have k49 : Kp [] w4 w9 := (kW.trans' kW8).trans k89 fun q hq hlt => by simp at hq; omega
    rw [ldAll (k := 7) (k49.get hy4 (by simp)) rfl]
    refine does_spec hdo hW9 fun w10 S10 h10 k10 hS10 => ?_
    have s4l := k49.size
    have k410 : Kp [] w4 w10 := k49.trans k10 fun q hq hlt => by have := hnW q hq; omega
    have c10 := c4.keep k410
    have hz10 := k410.get hz4 (by simp)
    simp only [bq_neq, bV_b, decide_eq_true_eq, decide_eq_false_iff_not]
    refine ⟨fun e => give _ w10 c10 hz10 (by unfold stepL; rw [if_neg (by simp [hok]), if_pos e]), fun e => ?_⟩
    obtain ⟨l', hl'⟩ : ∃ l', l' = (doesL l o).1 := ⟨_, rfl⟩
    rw [← hl'] at h10
    have h10d := h10.keep kp_drew
    obtain ⟨va', vb', vc', SA', SB', SC', hbx, hSx⟩ := h10d.ex
    have hlx : ∀ i (hi : i < 3) v' (hv' : ([(⟨va', 4, l'.st.map sC, SA'⟩ : Cmp), ⟨vb', 6, l'.ho.map hC, SB'⟩, ⟨vc', 6, l'.mo.map hC, SC'⟩].map (fun x : Cmp => x.v) ++ [Value.int .i64 l'.ops])[i]? = some v') (K : Value → Prop), ld1 (.pointer (some ⟨x, i, none⟩)) w10.drew K = K v' := fun i hi v' hv' K => ldF hbx.cell (by simpa using hv')
    obtain ⟨aa, ac, ha', _⟩ := (hbx.rows 0 (by simp)).len
    obtain ⟨ba, bc, hb', _⟩ := (hbx.rows 1 (by simp)).len
    obtain ⟨ca, cc, hc', _⟩ := (hbx.rows 2 (by simp)).len
    simp only [List.getElem_cons_zero, List.getElem_cons_succ, List.length_map] at ha' hb' hc'
    have la' : ∀ K : Value → Prop, lenL va' K = K (.int .i64 l'.st.length) := fun K => by rw [ha']; rfl
    have lb' : ∀ K : Value → Prop, lenL vb' K = K (.int .i64 l'.ho.length) := fun K => by rw [hb']; rfl
    have lc' : ∀ K : Value → Prop, lenL vc' K = K (.int .i64 l'.mo.length) := fun K => by rw [hc']; rfl
    rw [hlx 0 (by omega) va' rfl, la', hlx 1 (by omega) vb' rfl, lb', hlx 2 (by omega) vc' rfl, lc']
    rw [qG_of run_max3]
    have c10d := c10.keep kp_drew
    have hz10d := kp_drew.get hz10 (by simp)
    have e0 : (doesL l o).2 = 0 := Decidable.not_not.1 e
    simp only [bq_gtr, bV_b, decide_eq_true_eq, decide_eq_false_iff_not]
    refine ⟨fun e2 => ?_, fun e2 => ?_⟩
    · exact give 2 w10.drew c10d hz10d (by
        unfold stepL
        rw [if_neg (by simp [hok]), if_neg e, if_pos (.inl (by unfold fullL; rw [← hl']; exact decide_eq_true (by omega)))])
    · obtain ⟨xa, xb, xc, hxx, _⟩ := c10d.ex
      rw [ldF hxx (j := 3) (x := .int .i64 l.ops) rfl]
      simp only [bq_geq, bV_b, decide_eq_true_eq, decide_eq_false_iff_not]
      refine ⟨fun e3 => give 2 w10.drew c10d hz10d (by unfold stepL; rw [if_neg (by simp [hok]), if_neg e, if_pos (.inr (by omega))]), fun e3 => ?_⟩
      have hstep : stepL l o = ({ l' with ops := l.ops + 1 }, 0) := by
        unfold stepL
        rw [if_neg (by simp [hok]), if_neg e, if_neg, hl']
        rw [not_or]
        refine ⟨?_, by omega⟩
        unfold fullL
        rw [← hl', decide_eq_true_eq]
        omega
      have hops : l'.ops = l.ops := by
        rw [hl']
        exact (doesL_ops l o)
      unfold ledger_step_s0
      simp only [fa_p, nk_p, Nat.add_zero, Nat.zero_add]
      have hcell := hbx.cell
      have hops0 := hm.ops
      have hiw : IntKind.i64.wrap (l'.ops + 1) = l.ops + 1 := by rw [hops, w64 (by omega) (by omega)]
      rw [ldF hcell (j := 3) (x := .int .i64 l'.ops) rfl]
      simp only [bq_add, hiw]
      rw [stF hcell (by simp) rfl]
      obtain ⟨wA, hwA⟩ : ∃ wA, wA = setBlk w10.drew x (.cells #[va', vb', vc', .int .i64 (l.ops + 1)] 126) := ⟨_, rfl⟩
      have hwA' : setBlk w10.drew x (.cells ((([(⟨va', 4, l'.st.map sC, SA'⟩ : Cmp), ⟨vb', 6, l'.ho.map hC, SB'⟩, ⟨vc', 6, l'.mo.map hC, SC'⟩].map (fun x : Cmp => x.v) ++ [Value.int .i64 l'.ops]).toArray).setIfInBounds 3 (.int .i64 (l.ops + 1))) 126) = wA := by rw [hwA]; rfl
      rw [hwA']
      have kA : Kp [x] w10.drew wA := by rw [hwA]; exact (Kp.refl _ _).setBlk (.inl (by simp)) _
      have hxA : wA.heap[x]? = some (.cells #[va', vb', vc', .int .i64 (l.ops + 1)] 126) := by rw [hwA]; exact heap_self (live_of hcell)
      have hn10 : ∀ q ∈ S10, w4.heap.size ≤ q := fun q hq => by
        rcases hS10 q hq with h | h
        · exact hnW q h
        · have := k49.size; omega
      have hzx : z ≠ x := by have := hk4.size; omega
      have hzA : wA.heap[z]? = some (.cells [.slice none 0 0, .slice none 0 0, .slice none 0 0, .int .i64 0].toArray 60) := kA.get hz10d (by simpa using hzx)
      have hx0' : ∀ i (hi : i < 3), x ∉ [SA', SB', SC'][i] := by
        intro i hi
        rcases (by omega : i = 0 ∨ i = 1 ∨ i = 2) with rfl | rfl | rfl
        · exact hbx.x_not (i := 0) (by simp)
        · exact hbx.x_not (i := 1) (by simp)
        · exact hbx.x_not (i := 2) (by simp)
      have rA := (hbx.rows 0 (by simp)).keep kA fun q hq => by simp; intro e; exact hx0' 0 (by omega) (e ▸ hq)
      have rB := (hbx.rows 1 (by simp)).keep kA fun q hq => by simp; intro e; exact hx0' 1 (by omega) (e ▸ hq)
      have rC := (hbx.rows 2 (by simp)).keep kA fun q hq => by simp; intro e; exact hx0' 2 (by omega) (e ▸ hq)
      simp only [List.getElem_cons_zero, List.getElem_cons_succ] at rA rB rC
      have hin : ∀ q ∈ SA' ++ (SB' ++ SC'), q ∈ S10 := fun q hq => by
        rw [hSx]
        simp only [blksC, List.map_cons, List.map_nil, List.flatten_cons, List.flatten_nil, List.append_nil, List.mem_cons]
        exact .inr hq
      have hltA := kA.size
      have hlt10 := h10d.lt
      have hvA : LedS wA (.agg #[va', vb', vc', .int .i64 (l.ops + 1)]) { l' with ops := l.ops + 1 } (SA' ++ (SB' ++ SC')) :=
        ⟨⟨va', vb', vc', SA', SB', SC', rfl, .inr rA.rd, .inr rB.rd, .inr rC.rd, rfl⟩, fun q hq => by have := hlt10 q (hin q hq); omega⟩
      rw [hstep] at hK
      have kfin : Kp [] w wA := by
        refine ((c10d.kp).mono (by simp)).trans kA fun q hq hlt => ?_
        simp at hq; omega
      rw [ldAll (k := 4) hxA rfl]
      refine led_put (K := fun v w => K (.tuple #[v, .int .i64 0]) w) hzA hvA (fun hm => by have := hn10 z (hin z hm); have := hk4.size; omega) fun w' hk' hv' => hK _ w' _ (kfin.trans hk' fun q hq hlt => by simp at hq; omega) hv' fun q hq => .inr (by have := hn10 q (hin q hq); omega)
end Go.Proofs

/- Layer 7: the document tells a ledger that may be so. -/
set_option linter.unusedVariables false
set_option linter.unusedSimpArgs false
namespace Go.Proofs
open Go Go.Q
theorem zcInt : zc Try.prog 3 = [.int .i64 0].toArray := by kernel_rfl
theorem push_int {w0 w : World} {v : Value} {ks : List Int} (h : Fr w0 w v 1 (ks.map intV)) (hl : ks.length < 2 ^ 30) (q : Int) {K : Value → World → Prop} (hK : ∀ v' w', Fr w0 w' v' 1 ((ks ++ [q]).map intV) → K v' w') :
    bsl 3 1 1 (zc Try.prog 3) #[(0, .int .i64 q)] w fun t w => app 3 1 8 (zc Try.prog 3) v t w K := by
  refine bsl_rowN (n := 1) (cs := intV q) (by omega) rfl rfl fun v1 w1 f1 => ?_
  rw [zcInt]
  refine fr_push (wx := w1) (h.keep f1.kp) f1.rd (by omega) rfl (by rfl) (by simp; omega) (by simp; omega) fun v' w' h' => hK v' w' (by rw [List.map_append]; exact h')
/-- a ledger that is read, in a variable -/
structure LBox (w : World) (x : Nat) (a b c : Value) (l : LV) : Prop where
  h : w.heap[x]? = some (.cells #[a, b, c, .int .i64 l.ops] 60)
  a : Rd w a 4 (l.st.map sC)
  b : Rd w b 6 (l.ho.map hC)
  c : Rd w c 6 (l.mo.map hC)
section
variable {w0 w : World} {x : Nat} {a b c : Value} {l : LV}
theorem LBox.keep {w' : World} (h : LBox w x a b c l) (hk : Kp [] w w') : LBox w' x a b c l := ⟨hk.get h.h (by simp), h.a.keep hk, h.b.keep hk, h.c.keep hk⟩
theorem LBox.at (h : LBox w x a b c l) : LedAt w (.agg #[a, b, c, .int .i64 l.ops]) l := ⟨a, b, c, rfl, h.a, h.b, h.c⟩
theorem LBox.l0 (h : LBox w x a b c l) {K : Value → Prop} : ld1 (.pointer (some ⟨x, 0, none⟩)) w K = K a := ldF h.h rfl
theorem LBox.l1 (h : LBox w x a b c l) {K : Value → Prop} : ld1 (.pointer (some ⟨x, 1, none⟩)) w K = K b := ldF h.h rfl
theorem LBox.l2 (h : LBox w x a b c l) {K : Value → Prop} : ld1 (.pointer (some ⟨x, 2, none⟩)) w K = K c := ldF h.h rfl
theorem LBox.l3 (h : LBox w x a b c l) {K : Value → Prop} : ld1 (.pointer (some ⟨x, 3, none⟩)) w K = K (.int .i64 l.ops) := ldF h.h rfl
theorem LBox.ld (h : LBox w x a b c l) {K : Value → Prop} : ldn 4 (.pointer (some ⟨x, 0, none⟩)) w K = K (.agg #[a, b, c, .int .i64 l.ops]) := ldAll h.h rfl
theorem boxLed {v : Value} (hv : LedAt w v l) {K : Value → World → Prop} (hK : ∀ x a b c w1, w.heap.size ≤ x → Kp [] w w1 → LBox w1 x a b c l → v = .agg #[a, b, c, .int .i64 l.ops] → K (.pointer (some ⟨x, 0, none⟩)) w1) : newG (Value.cells v) 60 w K := by
  obtain ⟨a, b, c, rfl, h1, h2, h3⟩ := hv
  exact argBox (cs := [a, b, c, .int .i64 l.ops]) fun x w1 hx1 hh1 hk1 => hK x a b c w1 hx1 hk1 ⟨hh1, h1.keep hk1, h2.keep hk1, h3.keep hk1⟩ rfl
/-- a row's parts are read -/
theorem rd_parts {α : Type} {f : α → List Value} {w : World} {v : Value} {k : Nat} {L : List α} (h : Rd w v k (L.map f)) {i : Nat} (hi : i < L.length) : ∃ p, (∀ K : Value → Prop, ia k v (.int .i64 i) K = K p) ∧ (∀ K : Value → Prop, ldn k p w K = K (.agg (f L[i]).toArray)) ∧ ∀ j x, (f L[i])[j]? = some x → ∀ K : Value → Prop, fa j p (fun q => ld1 q w K) = K x := by
  obtain ⟨p, h1, h2, h3⟩ := h.get (i := i) (by simpa using hi)
  have e : (L.map f)[i]'(by simpa using hi) = f L[i] := by simp
  refine ⟨p, fun K => h1 .i64 K, fun K => by rw [h2 K, e], fun j x hx K => ?_⟩
  obtain ⟨hj, hx⟩ := List.getElem?_eq_some_iff.1 hx
  rw [h3 j (by rw [e]; exact hj)]
  have : ((L.map f)[i]'(by simpa using hi))[j]'(by rw [e]; exact hj) = x := by rw [← hx]; congr 1
  rw [this]
theorem actL_take {ho : List HV} {i : Nat} (h : i < ho.length) (x y : List UInt8) : actL (ho.take (i + 1)) x y = actL (ho.take i) x y ++ if ho[i].sku = x ∧ ho[i].loc = y ∧ ho[i].st = 0 then [ho[i].q] else [] := by
  rw [List.take_succ_eq_append_getElem h, actL_snoc]
theorem movL_take {ho : List HV} {i : Nat} (h : i < ho.length) (x y : List UInt8) : movL (ho.take (i + 1)) x y = movL (ho.take i) x y ++ if ho[i].sku = x ∧ ho[i].loc = y then [ho[i].q] else [] := by
  rw [List.take_succ_eq_append_getElem h, movL_snoc]
theorem refSums_true {v : Value} (hm : May l) (hv : LedAt w v l) {s : SV} (hs : s ∈ l.st) {K : Value → World → Prop} (hK : ∀ w', Kp [] w w' → K (.bool true) w') : callG Try.prog 71 #[v, sA s] w K := by
  refine ref07_sums_call ?_
  have hfew := hm.few
  simp only [fullL, decide_eq_false_iff_not, not_or] at hfew
  obtain ⟨g1, g2, g3, g4, g5, g6, g7⟩ := hm.f.ok s hs
  have gf := fits_iff.1 g3
  unfold ref07_sums ref07_sums_s10
  refine boxLed hv fun x a b c w1 hx1 hk1 hB _ => ?_
  refine argBox (cs := sC s) fun y w2 hy hh2 hk2 => ?_
  have hB2 := hB.keep hk2
  have hk02 := hk1.trans' hk2
  have ys : ∀ w', Kp [] w2 w' → ∀ j v, (sC s)[j]? = some v → ∀ K : Value → Prop, ld1 (.pointer (some ⟨y, j, none⟩)) w' K = K v := fun w' k j v hj K => ldF (k.get hh2 (by simp)) (by simpa using hj)
  unfold ref07_sums_s9 ref07_sums_L8
  refine loop_inv (fun m xs wi => ∃ i av, i ≤ l.ho.length ∧ m = l.ho.length - i ∧ xs = [.pointer (some ⟨x, 0, none⟩), .pointer (some ⟨y, 0, none⟩), av, .slice none 0 0, .int .i64 (i : Nat)] ∧ Fr w2 wi av 1 ((actL (l.ho.take i) s.sku s.loc).map intV)) ?_ (m := l.ho.length) ⟨0, .slice none 0 0, by omega, rfl, rfl, by simpa [actL] using fr_nil (Kp.refl [] w2)⟩
  rintro m N xs wi ⟨i, av, hi, rfl, rfl, hf⟩ hN
  have hiw : IntKind.i64.wrap ((i : Int) + 1) = ((i + 1 : Nat) : Int) := by rw [w64 (by omega) (by omega)]; simp
  have hBi := hB2.keep hf.kp
  unfold ref07_sums_L8F ref07_sums_b7
  simp only [fa_p, Nat.add_zero, Nat.zero_add]
  rw [hBi.l1, hBi.b.lenL, List.length_map]
  simp only [bq_lss, bq_add, hiw, bV_b, decide_eq_true_eq, decide_eq_false_iff_not]
  refine ⟨fun hlt => ?_, fun hge => ?_⟩
  · have hlt : i < l.ho.length := by omega
    obtain ⟨p, i1, i2⟩ := rd_hold hBi.b hlt
    rw [hBi.l1, i1, i2]
    refine boxHold (o := l.ho[i]) (by kernel_rfl) fun q w5 hq hh5 hk5 => ?_
    have kq : Kp [] w2 w5 := hf.kp.trans' hk5
    have hact := actL_take hlt s.sku s.loc
    have hnext : ¬ (l.ho[i].sku = s.sku ∧ l.ho[i].loc = s.loc ∧ l.ho[i].st = 0) → N [.pointer (some ⟨x, 0, none⟩), .pointer (some ⟨y, 0, none⟩), av, .slice none 0 0, .int .i64 (i + 1 : Nat)] w5 := fun hc => hN (l.ho.length - (i + 1)) _ w5 (by omega) ⟨i + 1, av, by omega, rfl, rfl, by
      rw [hact, if_neg hc, List.append_nil]; exact hf.keep hk5⟩
    simp only [fa_p, Nat.add_zero, Nat.zero_add]
    rw [ldF hh5 (j := 1) (x := .string (str l.ho[i].sku)) rfl, ys _ kq 0 (.string (str s.sku)) rfl]
    simp only [bq_seql, bV_b, decide_eq_true_eq, decide_eq_false_iff_not, str_eq]
    refine ⟨fun e1 => ?_, fun e1 => hnext (fun h => e1 h.1)⟩
    rw [ldF hh5 (j := 2) (x := .string (str l.ho[i].loc)) rfl, ys _ kq 1 (.string (str s.loc)) rfl]
    simp only [bq_seql, bV_b, decide_eq_true_eq, decide_eq_false_iff_not, str_eq]
    refine ⟨fun e2 => ?_, fun e2 => hnext (fun h => e2 h.2.1)⟩
    rw [ldF hh5 (j := 4) (x := .int .i64 l.ho[i].st) rfl]
    simp only [bq_eql, bV_b, decide_eq_true_eq, decide_eq_false_iff_not]
    refine ⟨fun e3 => ?_, fun e3 => hnext (fun h => e3 h.2.2)⟩
    rw [ldF hh5 (j := 3) (x := .int .i64 l.ho[i].q) rfl]
    have hln : (actL (l.ho.take i) s.sku s.loc).length ≤ 4096 := by have := actL_len (l.ho.take i) s.sku s.loc; have := List.length_take_le i l.ho; omega
    refine push_int (hf.keep hk5) (by omega) l.ho[i].q fun v6 w6 f6 => ?_
    exact hN (l.ho.length - (i + 1)) _ w6 (by omega) ⟨i + 1, v6, by omega, rfl, rfl, by rw [hact, if_pos ⟨e1, e2, e3⟩]; exact f6⟩
  · have hie : i = l.ho.length := by omega
    subst hie
    rw [List.take_length] at hf
    unfold ref07_sums_s6 ref07_sums_L5
    obtain ⟨A, hA⟩ : ∃ A, A = actL l.ho s.sku s.loc := ⟨_, rfl⟩
    rw [← hA] at hf
    refine loop_inv (fun m xs wj => ∃ i bv, i ≤ l.mo.length ∧ m = l.mo.length - i ∧ xs = [.pointer (some ⟨x, 0, none⟩), .pointer (some ⟨y, 0, none⟩), av, bv, .int .i64 (i : Nat)] ∧ Fr wi wj bv 1 ((movL (l.mo.take i) s.sku s.loc).map intV)) ?_ (m := l.mo.length) ⟨0, .slice none 0 0, by omega, rfl, rfl, by simpa [movL] using fr_nil (Kp.refl [] wi)⟩
    rintro m N xs wj ⟨i, bv, hi, rfl, rfl, hg⟩ hN
    have hiw : IntKind.i64.wrap ((i : Int) + 1) = ((i + 1 : Nat) : Int) := by rw [w64 (by omega) (by omega)]; simp
    have k2j : Kp [] w2 wj := hf.kp.trans' hg.kp
    have hBj := hB2.keep k2j
    unfold ref07_sums_L5F ref07_sums_s4
    simp only [fa_p, Nat.add_zero, Nat.zero_add]
    rw [hBj.l2, hBj.c.lenL, List.length_map]
    simp only [bq_lss, bV_b, decide_eq_true_eq, decide_eq_false_iff_not]
    refine ⟨fun hlt => ?_, fun hge => ?_⟩
    · have hlt : i < l.mo.length := by omega
      have hmov := movL_take hlt s.sku s.loc
      have kd : Kp [] wj wj.drew := kp_drew
      have hBd := hBj.keep kd
      obtain ⟨p, i1, _, i3⟩ := rd_parts hBd.c hlt
      have hno : ¬ (l.mo[i].sku = s.sku ∧ l.mo[i].loc = s.loc) → ref07_sums_s2 K N (.pointer (some ⟨x, 0, none⟩)) (.pointer (some ⟨y, 0, none⟩)) av bv (.int .i64 i) (.bool false) wj.drew := fun hc => by
        unfold ref07_sums_s2 ref07_sums_s1
        simp only [bV_b, bq_add, hiw, Bool.false_eq_true, false_implies, true_and, true_implies]
        exact hN (l.mo.length - (i + 1)) _ _ (by omega) ⟨i + 1, bv, by omega, rfl, rfl, by rw [hmov, if_neg hc, List.append_nil]; exact hg.keep kd⟩
      unfold ref07_sums_s3
      simp only [fa_p, Nat.add_zero, Nat.zero_add]
      rw [hBd.l2, i1, i3 1 (.string (str l.mo[i].sku)) rfl, ys _ (k2j.trans' kd) 0 (.string (str s.sku)) rfl]
      simp only [bq_seql, bV_b, decide_eq_true_eq, decide_eq_false_iff_not, str_eq]
      refine ⟨fun e1 => ?_, fun e1 => hno (fun h => e1 h.1)⟩
      rw [hBd.l2, i1, i3 2 (.string (str l.mo[i].loc)) rfl, ys _ (k2j.trans' kd) 1 (.string (str s.loc)) rfl]
      simp only [bq_seql, str_eq]
      by_cases e2 : l.mo[i].loc = s.loc
      · rw [decide_eq_true e2]
        unfold ref07_sums_s2
        simp only [bV_b, fa_p, Nat.add_zero, Nat.zero_add, true_implies, Bool.true_eq_false, false_implies, and_true]
        rw [hBd.l2, i1, i3 3 (.int .i64 l.mo[i].q) rfl]
        have hln : (movL (l.mo.take i) s.sku s.loc).length ≤ 4096 := by have := movL_len (l.mo.take i) s.sku s.loc; have := List.length_take_le i l.mo; omega
        refine push_int (hg.keep kd) (by omega) l.mo[i].q fun v6 w6 f6 => ?_
        unfold ref07_sums_s1
        simp only [bq_add, hiw]
        exact hN (l.mo.length - (i + 1)) _ w6 (by omega) ⟨i + 1, v6, by omega, rfl, rfl, by rw [hmov, if_pos ⟨e1, e2⟩]; exact f6⟩
      · rw [decide_eq_false e2]
        exact hno (fun h => e2 h.2)
    · have hie : i = l.mo.length := by omega
      subst hie
      rw [List.take_length] at hg
      unfold ref07_sums_s0
      have l1 := actL_len l.ho s.sku s.loc
      have l2 := movL_len l.mo s.sku s.loc
      refine refSum1_spec ((hf.rd).keep hg.kp) (by rw [hA]; exact act_rng hm _ _) (by rw [hA]; omega) fun w6 k6 => ?_
      simp only [ex0, ex1]
      refine refSum1_spec ((hg.rd).keep k6) (mov_rng hm _ _) (by omega) fun w7 k7 => ?_
      rw [hA, actL_sum, movL_sum, ← g6, ← g7, numO_fit g3, numO_fit (fits_iff.2 (by omega))]
      have k27 := (k2j.trans' k6).trans' k7
      simp only [ex0, ex1, bq_eql, fa_p, Nat.add_zero, Nat.zero_add]
      rw [ys _ k27 3 (.int .i64 s.held) rfl]
      simp only [bq_eql, bV_b, decide_true, true_implies, Bool.true_eq_false, false_implies, and_true]
      rw [ys _ k27 2 (.int .i64 s.hand) rfl]
      simp only [bq_eql, decide_true]
      exact hK w7 (hk02.trans' k27)
end
end Go.Proofs

/- Layer 7: the document tells a ledger that may be so. -/
set_option linter.unusedVariables false
set_option linter.unusedSimpArgs false
namespace Go.Proofs
open Go Go.Q
section
variable {w0 w : World} {x : Nat} {a b c : Value} {l : LV}
theorem refHolds_true {v : Value} (hm : May l) (hv : LedAt w v l) {K : Value → World → Prop} (hK : ∀ w', Kp [] w w' → K (.bool true) w') : callG Try.prog 72 #[v] w K := by
  refine ref07_holds_call ?_
  have hfew := hm.few
  simp only [fullL, decide_eq_false_iff_not, not_or] at hfew
  unfold ref07_holds ref07_holds_s7
  refine boxLed hv fun x a b c w1 hx1 hk1 hB _ => ?_
  unfold ref07_holds_s6 ref07_holds_L5
  refine loop_inv (fun m xs wi => ∃ i, i ≤ l.ho.length ∧ m = l.ho.length - i ∧ xs = [.pointer (some ⟨x, 0, none⟩), .int .i64 (i : Nat)] ∧ Kp [] w1 wi) ?_ (m := l.ho.length) ⟨0, by omega, rfl, rfl, Kp.refl _ _⟩
  rintro m N xs wi ⟨i, hi, rfl, rfl, hf⟩ hN
  have hiw : IntKind.i64.wrap ((i : Int) + 1) = ((i + 1 : Nat) : Int) := by rw [w64 (by omega) (by omega)]; simp
  have hBi := hB.keep hf
  unfold ref07_holds_L5F ref07_holds_s4
  simp only [fa_p, Nat.add_zero, Nat.zero_add]
  rw [hBi.l1, hBi.b.lenL, List.length_map]
  simp only [bq_lss, bV_b, decide_eq_true_eq, decide_eq_false_iff_not]
  refine ⟨fun hlt => ?_, fun hge => ?_⟩
  · have hlt : i < l.ho.length := by omega
    have hho := hm.holds i hlt
    simp only [holdOk, Bool.and_eq_true, Bool.or_eq_true, decide_eq_true_eq] at hho
    obtain ⟨⟨⟨⟨m1, m2⟩, m3⟩, m4, m5, m6, m7⟩, m8⟩ := hho
    unfold ref07_holds_s3
    simp only [fa_p, Nat.add_zero, Nat.zero_add]
    obtain ⟨p, i1, i2⟩ := rd_hold hBi.b hlt
    rw [hBi.l1, i1, i2]
    refine boxHold (o := l.ho[i]) (by kernel_rfl) fun q w5 hq hh5 hk5 => ?_
    have k5 := hf.trans' hk5
    have e1 : IntKind.i64.wrap (l.ho[i].id - 1) = (i : Int) := by rw [m1, w64 (by omega) (by omega)]; omega
    simp only [fa_p, Nat.add_zero, Nat.zero_add]
    rw [ldF hh5 (j := 0) (x := .int .i64 l.ho[i].id) rfl]
    simp only [bq_sub, bq_neq, bV_b, e1, decide_eq_true_eq, decide_eq_false_iff_not]
    refine ⟨fun h => absurd rfl h, fun _ => ?_⟩
    rw [ldF hh5 (j := 1) (x := .string (str l.ho[i].sku)) rfl]
    refine Name_spec l.ho[i].sku ?_
    rw [m2]
    simp only [un_not, bV_b, Bool.not_true, Bool.false_eq_true, false_implies, true_and, true_implies]
    rw [ldF hh5 (j := 2) (x := .string (str l.ho[i].loc)) rfl]
    refine Name_spec l.ho[i].loc ?_
    rw [m3]
    simp only [un_not, bV_b, Bool.not_true, Bool.false_eq_true, false_implies, true_and, true_implies]
    rw [ldF hh5 (j := 3) (x := .int .i64 l.ho[i].q) rfl]
    simp only [bq_lss, bV_b, decide_eq_true_eq, decide_eq_false_iff_not]
    refine ⟨fun h => by omega, fun _ => ?_⟩
    rw [ldF hh5 (j := 4) (x := .int .i64 l.ho[i].st) rfl]
    simp only [bq_lss, bV_b, decide_eq_true_eq, decide_eq_false_iff_not]
    refine ⟨fun h => by omega, fun _ => ?_⟩
    rw [ldF hh5 (j := 4) (x := .int .i64 l.ho[i].st) rfl]
    simp only [bq_gtr, bV_b, decide_eq_true_eq, decide_eq_false_iff_not]
    refine ⟨fun h => by omega, fun _ => ?_⟩
    rw [ldF hh5 (j := 5) (x := .int .i64 l.ho[i].due) rfl]
    simp only [bq_lss, bV_b, decide_eq_true_eq, decide_eq_false_iff_not]
    refine ⟨fun h => by omega, fun _ => ?_⟩
    have hnext : ∀ w', Kp [] w1 w' → ref07_holds_s1 K N (.pointer (some ⟨x, 0, none⟩)) (.int .i64 i) w' := fun w' k' => by
      unfold ref07_holds_s1
      simp only [bq_add, hiw]
      exact hN (l.ho.length - (i + 1)) _ w' (by omega) ⟨i + 1, by omega, rfl, rfl, k'⟩
    unfold ref07_holds_s2
    simp only [fa_p, Nat.add_zero, Nat.zero_add]
    rw [ldF hh5 (j := 4) (x := .int .i64 l.ho[i].st) rfl]
    simp only [bq_eql, bV_b, decide_eq_true_eq, decide_eq_false_iff_not]
    refine ⟨fun h0 => ?_, fun h0 => hnext w5 k5⟩
    have hB5 := hB.keep k5
    rw [hB5.ld, ldF hh5 (j := 1) (x := .string (str l.ho[i].sku)) rfl, ldF hh5 (j := 2) (x := .string (str l.ho[i].loc)) rfl]
    have hkn := m8.resolve_left (fun h => h h0)
    refine refIndex_spec hB5.at (by omega) l.ho[i].sku l.ho[i].loc (fun j w6 k6 hj _ _ => ?_) (fun w6 k6 _ hno => by rw [hkn] at hno; cases hno)
    have hj0 : ¬ ((j : Int) < 0) := by omega
    simp only [bq_lss, bV_b, hj0, decide_false, Bool.false_eq_true, false_implies, true_and, true_implies]
    exact hnext w6 (k5.trans' k6)
  · unfold ref07_holds_s0
    exact hK wi (hk1.trans' hf)
theorem refMoves_true {v : Value} (hm : May l) (hv : LedAt w v l) {K : Value → World → Prop} (hK : ∀ w', Kp [] w w' → K (.bool true) w') : callG Try.prog 73 #[v] w K := by
  refine ref07_moves_call ?_
  have hfew := hm.few
  simp only [fullL, decide_eq_false_iff_not, not_or] at hfew
  unfold ref07_moves ref07_moves_s7
  refine boxLed hv fun x a b c w1 hx1 hk1 hB _ => ?_
  unfold ref07_moves_s6 ref07_moves_L5
  refine loop_inv (fun m xs wi => ∃ i, i ≤ l.mo.length ∧ m = l.mo.length - i ∧ xs = [.pointer (some ⟨x, 0, none⟩), .int .i64 (i : Nat)] ∧ Kp [] w1 wi) ?_ (m := l.mo.length) ⟨0, by omega, rfl, rfl, Kp.refl _ _⟩
  rintro m N xs wi ⟨i, hi, rfl, rfl, hf⟩ hN
  have hiw : IntKind.i64.wrap ((i : Int) + 1) = ((i + 1 : Nat) : Int) := by rw [w64 (by omega) (by omega)]; simp
  have hBi := hB.keep hf
  unfold ref07_moves_L5F ref07_moves_s4
  simp only [fa_p, Nat.add_zero, Nat.zero_add]
  rw [hBi.l2, hBi.c.lenL, List.length_map]
  simp only [bq_lss, bV_b, decide_eq_true_eq, decide_eq_false_iff_not]
  refine ⟨fun hlt => ?_, fun hge => ?_⟩
  · have hlt : i < l.mo.length := by omega
    have hmv := hm.moves i hlt
    simp only [moveOk, Bool.and_eq_true, decide_eq_true_eq, beq_iff_eq] at hmv
    obtain ⟨⟨⟨⟨⟨⟨⟨⟨m1, m2⟩, m3⟩, m4⟩, m5⟩, m6⟩, m7⟩, m8⟩, m9⟩ := hmv
    unfold ref07_moves_s3
    simp only [fa_p, Nat.add_zero, Nat.zero_add]
    obtain ⟨p, i1, i2⟩ := rd_hold hBi.c hlt
    rw [hBi.l2, i1, i2]
    refine boxMove (o := l.mo[i]) (by kernel_rfl) fun q w5 hq hh5 hk5 => ?_
    have k5 := hf.trans' hk5
    have e1 : IntKind.i64.wrap (l.mo[i].id - 1) = (i : Int) := by rw [m1, w64 (by omega) (by omega)]; omega
    have hs2 : ref07_moves_s2 K N (.pointer (some ⟨x, 0, none⟩)) (.int .i64 i) (.pointer (some ⟨q, 0, none⟩)) (.bool true) w5 := by
      unfold ref07_moves_s2
      simp only [fa_p, Nat.add_zero, Nat.zero_add]
      rw [ldF hh5 (j := 0) (x := .int .i64 l.mo[i].id) rfl]
      simp only [bq_sub, bq_neq, bV_b, e1, decide_eq_true_eq, decide_eq_false_iff_not]
      refine ⟨fun h => absurd rfl h, fun _ => ?_⟩
      rw [ldF hh5 (j := 1) (x := .string (str l.mo[i].sku)) rfl]
      refine Name_spec l.mo[i].sku ?_
      rw [m2]
      simp only [un_not, bV_b, Bool.not_true, Bool.false_eq_true, false_implies, true_and, true_implies]
      rw [ldF hh5 (j := 2) (x := .string (str l.mo[i].loc)) rfl]
      refine Name_spec l.mo[i].loc ?_
      rw [m3]
      simp only [un_not, bV_b, Bool.not_true, Bool.false_eq_true, false_implies, true_and, true_implies]
      rw [ldF hh5 (j := 3) (x := .int .i64 l.mo[i].q) rfl]
      simp only [bq_eql, bV_b, decide_eq_true_eq, decide_eq_false_iff_not]
      refine ⟨fun h => absurd h m5, fun _ => ?_⟩
      rw [ldF hh5 (j := 5) (x := .int .i64 l.mo[i].due) rfl]
      simp only [bq_lss, bV_b, decide_eq_true_eq, decide_eq_false_iff_not]
      refine ⟨fun h => by omega, fun _ => ?_⟩
      rw [ldF hh5 (j := 5) (x := .int .i64 l.mo[i].due) rfl]
      simp only [bq_neq]
      rw [ldF hh5 (j := 4) (x := .int .i64 l.mo[i].st) rfl]
      simp only [bq_eql]
      rw [bq_bneq _ _ (by kernel_rfl)]
      have e8 : (decide (l.mo[i].due ≠ 0) == decide (l.mo[i].st = 3)) = true := by simpa using m8
      rw [e8]
      simp only [bV_b, Bool.not_true, Bool.false_eq_true, false_implies, true_and, true_implies]
      have hB5 := hB.keep k5
      rw [hB5.ld, ldF hh5 (j := 1) (x := .string (str l.mo[i].sku)) rfl, ldF hh5 (j := 2) (x := .string (str l.mo[i].loc)) rfl]
      refine refIndex_spec hB5.at (by omega) l.mo[i].sku l.mo[i].loc (fun j w6 k6 hj _ _ => ?_) (fun w6 k6 _ hno => by rw [m9] at hno; cases hno)
      have hj0 : ¬ ((j : Int) < 0) := by omega
      simp only [bq_lss, bV_b, hj0, decide_false, Bool.false_eq_true, false_implies, true_and, true_implies]
      unfold ref07_moves_s1
      simp only [bq_add, hiw]
      exact hN (l.mo.length - (i + 1)) _ w6 (by omega) ⟨i + 1, by omega, rfl, rfl, k5.trans' k6⟩
    simp only [fa_p, Nat.add_zero, Nat.zero_add]
    rw [ldF hh5 (j := 4) (x := .int .i64 l.mo[i].st) rfl]
    simp only [bq_eql, bV_b, decide_eq_true_eq, decide_eq_false_iff_not]
    refine ⟨fun _ => hs2, fun n1 => ?_⟩
    rw [ldF hh5 (j := 4) (x := .int .i64 l.mo[i].st) rfl]
    simp only [bq_eql, bV_b, decide_eq_true_eq, decide_eq_false_iff_not]
    refine ⟨fun _ => hs2, fun n3 => ?_⟩
    rw [ldF hh5 (j := 4) (x := .int .i64 l.mo[i].st) rfl]
    simp only [bq_eql, bV_b, decide_eq_true_eq, decide_eq_false_iff_not]
    refine ⟨fun _ => hs2, fun n6 => ?_⟩
    rw [ldF hh5 (j := 4) (x := .int .i64 l.mo[i].st) rfl]
    have e7 : l.mo[i].st = 7 := by omega
    simp only [bq_eql, e7, decide_true]
    exact hs2
  · unfold ref07_moves_s0
    exact hK wi (hk1.trans' hf)
theorem refMay_true {v : Value} (hm : May l) (hv : LedAt w v l) {K : Value → World → Prop} (hK : ∀ w', Kp [] w w' → K (.bool true) w') : callG Try.prog 40 #[v] w K := by
  refine ref07_May_call ?_
  have hfew := hm.few
  simp only [fullL, decide_eq_false_iff_not, not_or] at hfew
  have hops := hm.ops
  unfold ref07_May ref07_May_s4
  refine boxLed hv fun x a b c w1 hx1 hk1 hB _ => ?_
  simp only [fa_p, Nat.add_zero, Nat.zero_add]
  rw [hB.l3]
  simp only [bq_lss, bV_b, decide_eq_true_eq, decide_eq_false_iff_not]
  refine ⟨fun h => by omega, fun _ => ?_⟩
  rw [hB.l0, hB.a.lenL, List.length_map]
  simp only [bq_gtr, bV_b, decide_eq_true_eq, decide_eq_false_iff_not]
  refine ⟨fun h => by omega, fun _ => ?_⟩
  rw [hB.l1, hB.b.lenL, List.length_map]
  simp only [bq_gtr, bV_b, decide_eq_true_eq, decide_eq_false_iff_not]
  refine ⟨fun h => by omega, fun _ => ?_⟩
  rw [hB.l2, hB.c.lenL, List.length_map]
  simp only [bq_gtr, bV_b, decide_eq_true_eq, decide_eq_false_iff_not]
  refine ⟨fun h => by omega, fun _ => ?_⟩
  unfold ref07_May_s3 ref07_May_L2
  refine loop_inv (fun m xs wi => ∃ i, i ≤ l.st.length ∧ m = l.st.length - i ∧ xs = [.pointer (some ⟨x, 0, none⟩), .int .i64 (i : Nat)] ∧ Kp [] w1 wi) ?_ (m := l.st.length) ⟨0, by omega, rfl, rfl, Kp.refl _ _⟩
  rintro m N xs wi ⟨i, hi, rfl, rfl, hf⟩ hN
  have hiw : IntKind.i64.wrap ((i : Int) + 1) = ((i + 1 : Nat) : Int) := by rw [w64 (by omega) (by omega)]; simp
  have hBi := hB.keep hf
  unfold ref07_May_L2F ref07_May_b1
  simp only [fa_p, Nat.add_zero, Nat.zero_add]
  rw [hBi.l0, hBi.a.lenL, List.length_map]
  simp only [bq_lss, bV_b, decide_eq_true_eq, decide_eq_false_iff_not]
  refine ⟨fun hlt => ?_, fun hge => ?_⟩
  · have hlt : i < l.st.length := by omega
    obtain ⟨g1, g2, g3, g4, g5, g6, g7⟩ := hm.f.ok l.st[i] (List.getElem_mem hlt)
    obtain ⟨p, i1, i2⟩ := rd_stock hBi.a hlt
    rw [hBi.l0, i1, i2]
    refine boxStock (o := l.st[i]) (by kernel_rfl) fun q w5 hq hh5 hk5 => ?_
    have kd : Kp [] w5 w5.drew := kp_drew
    have hh5d := kd.get hh5 (by simp)
    have k5 := (hf.trans' hk5).trans' kd
    simp only [fa_p, Nat.add_zero, Nat.zero_add]
    rw [ldF hh5d (j := 0) (x := .string (str l.st[i].sku)) rfl]
    refine Name_spec l.st[i].sku ?_
    rw [g1]
    simp only [un_not, bV_b, Bool.not_true, Bool.false_eq_true, false_implies, true_and, true_implies]
    rw [ldF hh5d (j := 1) (x := .string (str l.st[i].loc)) rfl]
    refine Name_spec l.st[i].loc ?_
    rw [g2]
    simp only [un_not, bV_b, Bool.not_true, Bool.false_eq_true, false_implies, true_and, true_implies]
    rw [ldF hh5d (j := 3) (x := .int .i64 l.st[i].held) rfl]
    simp only [bq_lss, bV_b, decide_eq_true_eq, decide_eq_false_iff_not]
    refine ⟨fun h => by omega, fun _ => ?_⟩
    rw [ldF hh5d (j := 3) (x := .int .i64 l.st[i].held) rfl, ldF hh5d (j := 2) (x := .int .i64 l.st[i].hand) rfl]
    simp only [bq_gtr, bV_b, decide_eq_true_eq, decide_eq_false_iff_not]
    refine ⟨fun h => by omega, fun _ => ?_⟩
    have hB5 := hB.keep k5
    have fin : ∀ w', Kp [] w1 w' → w'.heap[q]? = some (.cells (sC l.st[i]).toArray 44) → ldn 4 (.pointer (some ⟨x, 0, none⟩)) w' fun t76 => ldn 4 (.pointer (some ⟨q, 0, none⟩)) w' fun t77 =>
        callG Try.prog 71 #[t76, t77] w' fun t78 w => qG Try.prog (Op.unary .not t78) w fun t79 => bV t79 (K (.bool false) w) (N [.pointer (some ⟨x, 0, none⟩), .int .i64 (i + 1 : Nat)] w) := fun w' k' hq' => by
      rw [(hB.keep k').ld, ldStock hq']
      refine refSums_true hm (hB.keep k').at (List.getElem_mem hlt) fun w6 k6 => ?_
      simp only [un_not, bV_b, Bool.not_true, Bool.false_eq_true, false_implies, true_and, true_implies]
      exact hN (l.st.length - (i + 1)) _ w6 (by omega) ⟨i + 1, by omega, rfl, rfl, k'.trans' k6⟩
    simp only [bq_add, hiw]
    refine ⟨fun hpos => ?_, fun h0 => fin _ k5 hh5d⟩
    have e1 : IntKind.i64.wrap ((i : Int) - 1) = ((i - 1 : Nat) : Int) := by rw [w64 (by omega) (by omega)]; omega
    have hlt1 : i - 1 < l.st.length := by omega
    obtain ⟨p1, j1, j2⟩ := rd_stock hB5.a hlt1
    rw [hB5.l0]
    simp only [bq_sub, e1]
    rw [j1, j2, ldStock hh5d]
    refine refAhead_spec l.st[i - 1] l.st[i] fun w6 k6 => ?_
    have : Q.ahead l.st[i - 1] l.st[i] = true := List.pairwise_iff_getElem.1 hm.sorted (i - 1) i hlt1 hlt (by omega)
    rw [this]
    simp only [un_not, bV_b, Bool.not_true, Bool.false_eq_true, false_implies, true_and, true_implies]
    exact fin w6 (k5.trans' k6) (k6.get hh5d (by simp))
  · unfold ref07_May_s0
    rw [hBi.ld]
    refine refHolds_true hm hBi.at fun w2 k2 => ?_
    simp only [bV_b, Bool.true_eq_false, false_implies, and_true, true_implies]
    have hB2 := hBi.keep k2
    rw [hB2.ld]
    refine refMoves_true hm hB2.at fun w3 k3 => ?_
    exact hK w3 (((hk1.trans' hf).trans' k2).trans' k3)
end
end Go.Proofs

/- Layer 7: the document's ledger: does (a put or a take). -/
set_option linter.unusedVariables false
set_option linter.unusedSimpArgs false
namespace Go.Proofs
open Go Go.Q
/-- a count (7): what there would be, what is held, and the move -/
theorem refDoes_s0 {w0 w : World} {x y z t : Nat} {l : LV} {S0 : List Nat} (hm : May l) (hs : Sorted l.st) (c : LVar w0 w x l S0 S0) (o : OpV) (hq : rngI o.q) (hl : l.st.length < 2 ^ 18) (hlm : l.mo.length < 2 ^ 18)
    (hy : w.heap[y]? = some (.cells (opC o).toArray 23)) (hz : w.heap[z]? = some (.cells [.slice none 0 0, .slice none 0 0, .slice none 0 0, .int .i64 0].toArray 60)) (ht : w.heap[t]? = some (.cells (sC ⟨o.sku, o.loc, 0, 0⟩).toArray 44))
    (hzx : z ≠ x) (hz0 : w0.heap.size ≤ z) (hzS : z ∉ S0) {K : Value → World → Prop}
    (hK : ∀ v' w' S' l' e, Kp [] w0 w' → LedS w' v' l' S' → (l', e) = (if (moreL l o.sku o.loc o.q).2 ≠ 0 then (l, (moreL l o.sku o.loc o.q).2)
     else if (moreL l o.sku o.loc o.q).1 < (findS l.st o.sku o.loc).held then (l, 70) else (movedL l o.sku o.loc o.q o.k 0, 0)) → (∀ q ∈ S', q ∈ S0 ∨ w0.heap.size ≤ q) → K (.tuple #[v', .int .i64 e]) w') :
    ref07_does_s0 K (.pointer (some ⟨x, 0, none⟩)) (.pointer (some ⟨y, 0, none⟩)) (.pointer (some ⟨z, 0, none⟩)) (.pointer (some ⟨t, 0, none⟩)) w := by
  obtain ⟨v1, hld, hv1⟩ := c.ld
  have hy' := hy
  unfold opC at hy'
  unfold ref07_does_s0
  rw [hld]
  simp [-getElem?_pos, -Array.all_eq_true, -Array.getElem?_eq_getElem, -List.length_flatten, List.getElem?_cons_zero, List.getElem?_cons_succ, hy', -ldn_p, -stn_p, -newG_k]
  refine refMore_spec hm hv1.at o.sku o.loc hq fun w2 hk2 => ?_
  have c2 := c.keep hk2
  have hy2 := hk2.get hy' (by simp)
  have hz2 := hk2.get hz (by simp)
  have ht2 := hk2.get ht (by simp)
  simp [-getElem?_pos, -Array.all_eq_true, -Array.getElem?_eq_getElem, -List.length_flatten, List.getElem?_cons_zero, List.getElem?_cons_succ, -ldn_p, -stn_p, -newG_k]
  refine ⟨fun h1 => ?_, fun h1 => ?_⟩
  · exact led_give (K := fun v w => K (.tuple #[v, .int .i64 (moreL l o.sku o.loc o.q).2]) w) c2 hz2 hz0 hzS fun v' w' hk hv' => hK v' w' S0 _ _ hk hv' (by rw [if_pos h1]) fun q hq => .inl hq
  obtain ⟨v2, hld2, hv2⟩ := c2.ld
  rw [hld2]
  simp [-getElem?_pos, -Array.all_eq_true, -Array.getElem?_eq_getElem, -List.length_flatten, List.getElem?_cons_zero, List.getElem?_cons_succ, hy2, -ldn_p, -stn_p, -newG_k]
  refine refFind_spec hv2.at (by omega) o.sku o.loc fun w3 hk3 => ?_
  have c3 := c2.keep hk3
  have hy3 := hk3.get hy2 (by simp)
  have hz3 := hk3.get hz2 (by simp)
  have ht3 := hk3.get ht2 (by simp)
  simp [-getElem?_pos, -Array.all_eq_true, -Array.getElem?_eq_getElem, -List.length_flatten, List.getElem?_cons_zero, List.getElem?_cons_succ, sA, -ldn_p, -stn_p, -newG_k]
  refine ⟨fun h2 => ?_, fun h2 => ?_⟩
  · exact led_give (K := fun v w => K (.tuple #[v, .int .i64 70]) w) c3 hz3 hz0 hzS fun v' w' hk hv' => hK v' w' S0 _ _ hk hv' (by rw [if_neg (by simpa using h1), if_pos h2]) fun q hq => .inl hq
  obtain ⟨v3, hld3, hv3⟩ := c3.ld
  rw [hld3, ldStock ht3]
  simp [-getElem?_pos, -Array.all_eq_true, -Array.getElem?_eq_getElem, -List.length_flatten, List.getElem?_cons_zero, List.getElem?_cons_succ, hy3, move_zc, str_nil, bld_done, bld_if, offAt, putAt, -ldn_p, -stn_p, -newG_k]
  refine refMoved_spec hs hv3 (by omega) (by omega) ⟨o.sku, o.loc, 0, 0⟩ o.q ⟨0, [], [], 0, o.k, 0⟩ fun v4 w4 S4 hk4 hv4 hS4 => ?_
  have hsz := c3.kp.size
  have hz4 := hk4.get hz3 (by simp)
  have hzl := lt_of_blk hz3
  have hS4' : ∀ q ∈ S4, q ∈ S0 ∨ w0.heap.size ≤ q := fun q hq => by
    rcases hS4 q hq with e | e
    · exact .inl e
    · exact .inr (by omega)
  exact led_put (K := fun v w => K (.tuple #[v, .int .i64 0]) w) hz4 hv4 (fun hm => by rcases hS4 z hm with e | e; exact hzS e; omega) fun w' hk' hv' => hK v4 w' S4 _ _ ((c3.kp.trans' hk4).trans hk' fun q hq hlt => by simp at hq; omega) hv' (by rw [if_neg (by simpa using h1), if_neg (by omega)]) hS4'
/-- a put: without a look at what is held -/
theorem refDoes_s1 {w0 w : World} {x y z t : Nat} {l : LV} {S0 : List Nat} (hm : May l) (hs : Sorted l.st) (c : LVar w0 w x l S0 S0) (o : OpV) (hq : rngI o.q) (hl : l.st.length < 2 ^ 18) (hlm : l.mo.length < 2 ^ 18)
    (hy : w.heap[y]? = some (.cells (opC o).toArray 23)) (hz : w.heap[z]? = some (.cells [.slice none 0 0, .slice none 0 0, .slice none 0 0, .int .i64 0].toArray 60)) (ht : w.heap[t]? = some (.cells (sC ⟨o.sku, o.loc, 0, 0⟩).toArray 44))
    (hzx : z ≠ x) (hz0 : w0.heap.size ≤ z) (hzS : z ∉ S0) {K : Value → World → Prop}
    (hK : ∀ v' w' S' l' e, Kp [] w0 w' → LedS w' v' l' S' → (l', e) = (if (moreL l o.sku o.loc o.q).2 ≠ 0 then (l, (moreL l o.sku o.loc o.q).2) else (movedL l o.sku o.loc o.q o.k 0, 0)) → (∀ q ∈ S', q ∈ S0 ∨ w0.heap.size ≤ q) → K (.tuple #[v', .int .i64 e]) w') :
    ref07_does_s1 K (.pointer (some ⟨x, 0, none⟩)) (.pointer (some ⟨y, 0, none⟩)) (.pointer (some ⟨z, 0, none⟩)) (.pointer (some ⟨t, 0, none⟩)) w := by
  obtain ⟨v1, hld, hv1⟩ := c.ld
  have hy' := hy
  unfold opC at hy'
  unfold ref07_does_s1
  rw [hld]
  simp [-getElem?_pos, -Array.all_eq_true, -Array.getElem?_eq_getElem, -List.length_flatten, List.getElem?_cons_zero, List.getElem?_cons_succ, hy', -ldn_p, -stn_p, -newG_k]
  refine refMore_spec hm hv1.at o.sku o.loc hq fun w2 hk2 => ?_
  have c2 := c.keep hk2
  have hy2 := hk2.get hy' (by simp)
  have hz2 := hk2.get hz (by simp)
  have ht2 := hk2.get ht (by simp)
  simp [-getElem?_pos, -Array.all_eq_true, -Array.getElem?_eq_getElem, -List.length_flatten, List.getElem?_cons_zero, List.getElem?_cons_succ, -ldn_p, -stn_p, -newG_k]
  refine ⟨fun h1 => ?_, fun h1 => ?_⟩
  · exact led_give (K := fun v w => K (.tuple #[v, .int .i64 (moreL l o.sku o.loc o.q).2]) w) c2 hz2 hz0 hzS fun v' w' hk hv' => hK v' w' S0 _ _ hk hv' (by rw [if_pos h1]) fun q hq => .inl hq
  obtain ⟨v3, hld3, hv3⟩ := c2.ld
  rw [hld3, ldStock ht2]
  simp [-getElem?_pos, -Array.all_eq_true, -Array.getElem?_eq_getElem, -List.length_flatten, List.getElem?_cons_zero, List.getElem?_cons_succ, hy2, move_zc, str_nil, bld_done, bld_if, offAt, putAt, -ldn_p, -stn_p, -newG_k]
  refine refMoved_spec hs hv3 (by omega) (by omega) ⟨o.sku, o.loc, 0, 0⟩ o.q ⟨0, [], [], 0, o.k, 0⟩ fun v4 w4 S4 hk4 hv4 hS4 => ?_
  have hsz := c2.kp.size
  have hz4 := hk4.get hz2 (by simp)
  have hzl := lt_of_blk hz2
  have hS4' : ∀ q ∈ S4, q ∈ S0 ∨ w0.heap.size ≤ q := fun q hq => by
    rcases hS4 q hq with e | e
    · exact .inl e
    · exact .inr (by omega)
  exact led_put (K := fun v w => K (.tuple #[v, .int .i64 0]) w) hz4 hv4 (fun hm => by rcases hS4 z hm with e | e; exact hzS e; omega) fun w' hk' hv' => hK v4 w' S4 _ _ ((c2.kp.trans' hk4).trans hk' fun q hq hlt => by simp at hq; omega) hv' (by rw [if_neg (by simpa using h1)]) hS4'
end Go.Proofs

/- Layer 7: the document's ledger: does (an end of a hold, holds that are due). -/
set_option linter.unusedVariables false
set_option linter.unusedSimpArgs false
namespace Go.Proofs
open Go Go.Q
theorem refDoes_over {w0 w : World} {x y z t : Nat} {l : LV} {S0 : List Nat} (hs : Sorted l.st) (c : LVar w0 w x l S0 S0) (o : OpV) (hid : 1 ≤ o.id) (hl : l.st.length + l.ho.length < 2 ^ 18) (hlm : l.mo.length < 2 ^ 18)
    (hy : w.heap[y]? = some (.cells (opC o).toArray 23)) (hz : w.heap[z]? = some (.cells [.slice none 0 0, .slice none 0 0, .slice none 0 0, .int .i64 0].toArray 60))
    (hz0 : w0.heap.size ≤ z) (hzS : z ∉ S0) {tv u : Value} {K : Value → World → Prop}
    (hK : ∀ v' w' S', Kp [] w0 w' → LedS w' v' (overL l o).1 S' → (∀ q ∈ S', q ∈ S0 ∨ w0.heap.size ≤ q) → K (.tuple #[v', .int .i64 (overL l o).2]) w') :
    ref07_does_s3 K (.pointer (some ⟨x, 0, none⟩)) (.pointer (some ⟨y, 0, none⟩)) (.pointer (some ⟨z, 0, none⟩)) tv u (.bool true) w := by
  obtain ⟨v1, hld, hv1⟩ := c.ld
  unfold ref07_does_s3
  simp [-getElem?_pos, -Array.all_eq_true, -Array.getElem?_eq_getElem, -List.length_flatten, List.getElem?_cons_zero, List.getElem?_cons_succ, -ldn_p, -stn_p, -newG_k]
  rw [hld, ldAll (k := 7) hy rfl]
  refine refOver_spec hs hv1 hl hlm o hid fun v4 w4 S4 hk4 hv4 hS4 => ?_
  have hsz := c.kp.size
  have hz4 := hk4.get hz (by simp)
  have hzl := lt_of_blk hz
  have hS4' : ∀ q ∈ S4, q ∈ S0 ∨ w0.heap.size ≤ q := fun q hq => by
    rcases hS4 q hq with e | e
    · exact .inl e
    · exact .inr (by omega)
  simp [-getElem?_pos, -Array.all_eq_true, -Array.getElem?_eq_getElem, -List.length_flatten, List.getElem?_cons_zero, List.getElem?_cons_succ, -ldn_p, -stn_p, -newG_k]
  exact led_put (K := fun v w => K (.tuple #[v, .int .i64 (overL l o).2]) w) hz4 hv4 (fun hm => by rcases hS4 z hm with e | e; exact hzS e; omega) fun w' hk' hv' => hK v4 w' S4 ((c.kp.trans' hk4).trans hk' fun q hq hlt => by simp at hq; omega) hv' hS4'
theorem refDoes_expire {w0 w : World} {x y z t : Nat} {l : LV} {S0 : List Nat} (hs : Sorted l.st) (c : LVar w0 w x l S0 S0) (o : OpV) (hl : l.st.length + l.ho.length < 2 ^ 18)
    (hy : w.heap[y]? = some (.cells (opC o).toArray 23)) (hz : w.heap[z]? = some (.cells [.slice none 0 0, .slice none 0 0, .slice none 0 0, .int .i64 0].toArray 60))
    (hz0 : w0.heap.size ≤ z) (hzS : z ∉ S0) {tv : Value} {K : Value → World → Prop}
    (hK : ∀ v' w' S', Kp [] w0 w' → LedS w' v' (expireL l o.due 0 l.ho.length) S' → (∀ q ∈ S', q ∈ S0 ∨ w0.heap.size ≤ q) → K (.tuple #[v', .int .i64 0]) w') :
    ref07_does_s3 K (.pointer (some ⟨x, 0, none⟩)) (.pointer (some ⟨y, 0, none⟩)) (.pointer (some ⟨z, 0, none⟩)) tv (.int .i64 5) (.bool false) w := by
  obtain ⟨v1, hld, hv1⟩ := c.ld
  have hy' := hy
  unfold opC at hy'
  unfold ref07_does_s3
  simp [-getElem?_pos, -Array.all_eq_true, -Array.getElem?_eq_getElem, -List.length_flatten, List.getElem?_cons_zero, List.getElem?_cons_succ, -ldn_p, -stn_p, -newG_k]
  rw [hld]
  simp [-getElem?_pos, -Array.all_eq_true, -Array.getElem?_eq_getElem, -List.length_flatten, List.getElem?_cons_zero, List.getElem?_cons_succ, hy', -ldn_p, -stn_p, -newG_k]
  refine refExpire_spec hs hv1 hl o.due fun v4 w4 S4 hk4 hv4 hS4 => ?_
  have hsz := c.kp.size
  have hz4 := hk4.get hz (by simp)
  have hzl := lt_of_blk hz
  have hS4' : ∀ q ∈ S4, q ∈ S0 ∨ w0.heap.size ≤ q := fun q hq => by
    rcases hS4 q hq with e | e
    · exact .inl e
    · exact .inr (by omega)
  exact led_put (K := fun v w => K (.tuple #[v, .int .i64 0]) w) hz4 hv4 (fun hm => by rcases hS4 z hm with e | e; exact hzS e; omega) fun w' hk' hv' => hK v4 w' S4 ((c.kp.trans' hk4).trans hk' fun q hq hlt => by simp at hq; omega) hv' hS4'
end Go.Proofs

/- Layer 7: the document's ledger: does (a transfer). -/
set_option linter.unusedVariables false
set_option linter.unusedSimpArgs false
namespace Go.Proofs
open Go Go.Q
theorem refDoes_transfer {w0 w : World} {x y z t : Nat} {l : LV} {S0 : List Nat} (hm : May l) (hs : Sorted l.st) (c : LVar w0 w x l S0 S0) (o : OpV) (hq : rngI o.q) (hl : l.st.length < 2 ^ 18) (hlm : l.mo.length < 2 ^ 18)
    (hy : w.heap[y]? = some (.cells (opC o).toArray 23)) (hz : w.heap[z]? = some (.cells [.slice none 0 0, .slice none 0 0, .slice none 0 0, .int .i64 0].toArray 60)) (ht : w.heap[t]? = some (.cells (sC ⟨o.sku, o.loc, 0, 0⟩).toArray 44))
    (hyx : y ≠ x) (hzx : z ≠ x) (hz0 : w0.heap.size ≤ z) (hzS : z ∉ S0) {K : Value → World → Prop}
    (hK : ∀ v' w' S' l' e, Kp [] w0 w' → LedS w' v' l' S' → (l', e) = (if freeL l o.sku o.loc < o.q then (l, 70)
     else if (moreL l o.sku o.to o.q).2 ≠ 0 then (l, (moreL l o.sku o.to o.q).2)
     else (movedL (movedL l o.sku o.loc (w64i (-o.q)) o.k 0) o.sku o.to o.q o.k 0, 0)) → (∀ q ∈ S', q ∈ S0 ∨ w0.heap.size ≤ q) → K (.tuple #[v', .int .i64 e]) w') :
    ref07_does_s3 K (.pointer (some ⟨x, 0, none⟩)) (.pointer (some ⟨y, 0, none⟩)) (.pointer (some ⟨z, 0, none⟩)) (.pointer (some ⟨t, 0, none⟩)) (.int .i64 6) (.bool false) w := by
  have cd := c.keep kp_drew
  obtain ⟨v1, hld, hv1⟩ := cd.ld
  have hy' := kp_drew.get hy (by simp)
  have hz' := kp_drew.get hz (by simp)
  have ht' := kp_drew.get ht (by simp)
  unfold opC at hy'
  have hyo := hy
  unfold opC at hyo
  unfold ref07_does_s3
  simp [-getElem?_pos, -Array.all_eq_true, -Array.getElem?_eq_getElem, -List.length_flatten, List.getElem?_cons_zero, List.getElem?_cons_succ, -ldn_p, -stn_p, -newG_k]
  rw [hld]
  simp [-getElem?_pos, -Array.all_eq_true, -Array.getElem?_eq_getElem, -List.length_flatten, List.getElem?_cons_zero, List.getElem?_cons_succ, hyo, hy', -ldn_p, -stn_p, -newG_k]
  refine refFree_spec hm hv1.at o.sku o.loc fun w1 hk1 => ?_
  have c1 := cd.keep hk1
  have hy1 := hk1.get hy' (by simp)
  have hz1 := hk1.get hz' (by simp)
  have ht1 := hk1.get ht' (by simp)
  simp [-getElem?_pos, -Array.all_eq_true, -Array.getElem?_eq_getElem, -List.length_flatten, List.getElem?_cons_zero, List.getElem?_cons_succ, hy1, -ldn_p, -stn_p, -newG_k]
  refine ⟨fun h0 => ?_, fun h0 => ?_⟩
  · exact led_give (K := fun v w => K (.tuple #[v, .int .i64 70]) w) c1 hz1 hz0 hzS fun v' w' hk hv' => hK v' w' S0 _ _ hk hv' (by rw [if_pos h0]) fun q hq => .inl hq
  obtain ⟨v2, hld1, hv2⟩ := c1.ld
  rw [hld1]
  refine refMore_spec hm hv2.at o.sku o.to hq fun w2 hk2 => ?_
  have c2 := c1.keep hk2
  have hy2 := hk2.get hy1 (by simp)
  have hz2 := hk2.get hz1 (by simp)
  have ht2 := hk2.get ht1 (by simp)
  simp [-getElem?_pos, -Array.all_eq_true, -Array.getElem?_eq_getElem, -List.length_flatten, List.getElem?_cons_zero, List.getElem?_cons_succ, -ldn_p, -stn_p, -newG_k]
  refine ⟨fun h1 => ?_, fun h1 => ?_⟩
  · exact led_give (K := fun v w => K (.tuple #[v, .int .i64 (moreL l o.sku o.to o.q).2]) w) c2 hz2 hz0 hzS fun v' w' hk hv' => hK v' w' S0 _ _ hk hv' (by rw [if_neg (by omega), if_pos h1]) fun q hq => .inl hq
  obtain ⟨v3, hld3, hv3⟩ := c2.ld
  rw [hld3, ldStock ht2]
  simp [-getElem?_pos, -Array.all_eq_true, -Array.getElem?_eq_getElem, -List.length_flatten, List.getElem?_cons_zero, List.getElem?_cons_succ, hy2, neg_of, move_zc, zcStock, str_nil, bld_done, bld_if, offAt, putAt, -ldn_p, -stn_p, -newG_k]
  refine refMoved_spec hs hv3 (by omega) (by omega) ⟨o.sku, o.loc, 0, 0⟩ (w64i (-o.q)) ⟨0, [], [], 0, o.k, 0⟩ fun v4 w4 S4 hk4 hv4 hS4 => ?_
  refine c2.st hk4 hv4 hS4 fun w5 hk5 c5 => ?_
  have hy5 := hk5.get (hk4.get hy2 (by simp)) (by simpa using hyx)
  have hz5 := hk5.get (hk4.get hz2 (by simp)) (by simpa using hzx)
  obtain ⟨v5, hld5, hv5⟩ := c5.ld
  rw [hld5]
  simp [-getElem?_pos, -Array.all_eq_true, -Array.getElem?_eq_getElem, -List.length_flatten, List.getElem?_cons_zero, List.getElem?_cons_succ, hy5, neg_of, move_zc, zcStock, str_nil, bld_done, bld_if, offAt, putAt, -ldn_p, -stn_p, -newG_k]
  have hs4 : Sorted (movedL l o.sku o.loc (w64i (-o.q)) o.k 0).st := putS_sorted hs
  have hln := putS_len l.st { findS l.st o.sku o.loc with hand := w64i ((findS l.st o.sku o.loc).hand + w64i (-o.q)) }
  refine refMoved_spec hs4 hv5 (by show (putS l.st _).length < _; omega) (by show (l.mo ++ [_]).length < _; simp; omega) ⟨o.sku, o.to, 0, 0⟩ o.q ⟨0, [], [], 0, o.k, 0⟩ fun v6 w6 S6 hk6 hv6 hS6 => ?_
  have hz6 := hk6.get hz5 (by simp)
  have hzl := lt_of_blk hz5
  have hzl2 := lt_of_blk hz2
  have hsz := c5.kp.size
  have hS6' : ∀ q ∈ S6, q ∈ S0 ∨ w0.heap.size ≤ q := fun q hq => by
    rcases hS6 q hq with e | e
    · exact c5.new q e
    · exact .inr (by omega)
  refine led_put (K := fun v w => K (.tuple #[v, .int .i64 0]) w) hz6 hv6 (fun hm => ?_) fun w' hk' hv' => hK v6 w' S6 _ _ ((c5.kp.trans' hk6).trans hk' fun q hq hlt => by simp at hq; omega) hv' (by rw [if_neg (by omega), if_neg (by simpa using h1)]) hS6'
  rcases hS6 z hm with e | e
  · rcases hS4 z e with e | e
    · exact hzS e
    · omega
  · omega
end Go.Proofs

/- Layer 7: the document's ledger: does (a hold). -/
set_option linter.unusedVariables false
set_option linter.unusedSimpArgs false
namespace Go.Proofs
open Go Go.Q
theorem refDoes_hold {w0 w : World} {x y z t : Nat} {l : LV} {S0 : List Nat} (hm : May l) (hs : Sorted l.st) (c : LVar w0 w x l S0 S0) (o : OpV) (hq : rngI o.q) (hl : l.st.length + l.ho.length < 2 ^ 18) (hlm : l.mo.length < 2 ^ 18)
    (hy : w.heap[y]? = some (.cells (opC o).toArray 23)) (hz : w.heap[z]? = some (.cells [.slice none 0 0, .slice none 0 0, .slice none 0 0, .int .i64 0].toArray 60)) (ht : w.heap[t]? = some (.cells (sC ⟨o.sku, o.loc, 0, 0⟩).toArray 44))
    (hyx : y ≠ x) (hzx : z ≠ x) (hz0 : w0.heap.size ≤ z) (hzS : z ∉ S0) {K : Value → World → Prop}
    (hK : ∀ v' w' S' l' e, Kp [] w0 w' → LedS w' v' l' S' → (l', e) = (if freeL l o.sku o.loc < o.q then (l, 70)
     else
      let l1 := heldL l o.sku o.loc o.q
      ({ l1 with ho := l1.ho ++ [⟨(l1.ho.length + 1 : Nat), o.sku, o.loc, o.q, 0, o.due⟩] }, 0)) → (∀ q ∈ S', q ∈ S0 ∨ w0.heap.size ≤ q) → K (.tuple #[v', .int .i64 e]) w') :
    ref07_does_s2 K (.pointer (some ⟨x, 0, none⟩)) (.pointer (some ⟨y, 0, none⟩)) (.pointer (some ⟨z, 0, none⟩)) (.pointer (some ⟨t, 0, none⟩)) w := by
  have cd := c.keep kp_drew
  obtain ⟨v1, hld, hv1⟩ := cd.ld
  have hy' := kp_drew.get hy (by simp)
  have hz' := kp_drew.get hz (by simp)
  have ht' := kp_drew.get ht (by simp)
  unfold opC at hy'
  have hyo := hy
  unfold opC at hyo
  unfold ref07_does_s2
  rw [hld]
  simp [-getElem?_pos, -Array.all_eq_true, -Array.getElem?_eq_getElem, -List.length_flatten, List.getElem?_cons_zero, List.getElem?_cons_succ, hyo, hy', -ldn_p, -stn_p, -newG_k]
  refine refFree_spec hm hv1.at o.sku o.loc fun w1 hk1 => ?_
  have c1 := cd.keep hk1
  have hy1 := hk1.get hy' (by simp)
  have hz1 := hk1.get hz' (by simp)
  have ht1 := hk1.get ht' (by simp)
  simp [-getElem?_pos, -Array.all_eq_true, -Array.getElem?_eq_getElem, -List.length_flatten, List.getElem?_cons_zero, List.getElem?_cons_succ, hy1, -ldn_p, -stn_p, -newG_k]
  refine ⟨fun h0 => ?_, fun h0 => ?_⟩
  · exact led_give (K := fun v w => K (.tuple #[v, .int .i64 70]) w) c1 hz1 hz0 hzS fun v' w' hk hv' => hK v' w' S0 _ _ hk hv' (by rw [if_pos h0]) fun q hq => .inl hq
  obtain ⟨v2, hld1, hv2⟩ := c1.ld
  rw [hld1, ldStock ht1]
  refine refHeld_spec hs hv2 (by omega) ⟨o.sku, o.loc, 0, 0⟩ o.q fun v4 w4 S4 hk4 hv4 hS4 => ?_
  refine c1.st hk4 hv4 hS4 fun w5 hk5 c5 => ?_
  have hy5 := hk5.get (hk4.get hy1 (by simp)) (by simpa using hyx)
  have hz5 := hk5.get (hk4.get hz1 (by simp)) (by simpa using hzx)
  obtain ⟨a, b, cc, hx5, hl5⟩ := c5.ex
  obtain ⟨a', b', c', SA, SB, SC, e5, ha5, hb5, hc5, hS4e⟩ := hl5.ex
  simp only [Value.agg.injEq, Array.mk.injEq, List.cons.injEq] at e5
  obtain ⟨rfl, rfl, rfl, _⟩ := e5
  have rb : Rd w5 b 6 ((heldL l o.sku o.loc o.q).ho.map hC) := ⟨SB, hb5⟩
  simp [-getElem?_pos, -Array.all_eq_true, -Array.getElem?_eq_getElem, -List.length_flatten, List.getElem?_cons_zero, List.getElem?_cons_succ, hx5, hy5, rb.lenL, -ldn_p, -stn_p, -newG_k]
  have rb' : Rd w5 b 6 (l.ho.map hC) := rb
  refine app_holds (G := l.ho) (out := []) (by simpa using fr_nil (Kp.refl [] w5)) rb' (by simp; omega) fun v6 w6 f6 => ?_
  rw [List.nil_append] at f6
  have hx6 := f6.kp.get hx5 (by simp)
  have hy6 := f6.kp.get hy5 (by simp)
  have hz6 := f6.kp.get hz5 (by simp)
  have hiw : IntKind.i64.wrap ((l.ho.length : Int) + 1) = ((l.ho.length + 1 : Nat) : Int) := by rw [w64 (by omega) (by omega)]; simp
  simp [-getElem?_pos, -Array.all_eq_true, -Array.getElem?_eq_getElem, -List.length_flatten, List.getElem?_cons_zero, List.getElem?_cons_succ, hx6, hy6, rb'.lenL, hold_zc, str_nil, bld_done, bld_if, offAt, putAt, -ldn_p, -stn_p, -newG_k]
  rw [← hold_zc]
  refine bsl_rowN (n := 6) (cs := hC ⟨(l.ho.length + 1 : Nat), o.sku, o.loc, o.q, 0, o.due⟩) (by omega) (by rw [hiw]; rfl) rfl fun v7 w7 f7 => ?_
  have f7' := f6.keep f7.kp
  have hr7 : Rd w7 v7 6 ([(⟨(l.ho.length + 1 : Nat), o.sku, o.loc, o.q, 0, o.due⟩ : HV)].map hC) := f7.rd
  refine app_holds f7' hr7 (by simp; omega) fun v8 w8 f8 => ?_
  have hx8 := f8.kp.get hx5 (by simp)
  have hz8 := f8.kp.get hz5 (by simp)
  have lx := live_of hx8
  have o1 : one v8 = true := f8.one
  simp [-getElem?_pos, -Array.all_eq_true, -Array.getElem?_eq_getElem, -List.length_flatten, List.getElem?_cons_zero, List.getElem?_cons_succ, hx8, o1, lx, -ldn_p, -stn_p, -newG_k]
  obtain ⟨wA, hwA⟩ := ex_w (w' := setBlk w8 x (.cells #[a, v8, cc, .int .i64 (heldL l o.sku o.loc o.q).ops] 60))
  have hxA : wA.heap[x]? = some (.cells #[a, v8, cc, .int .i64 (heldL l o.sku o.loc o.q).ops] 60) := by rw [hwA]; exact heap_self lx
  have kA : Kp [x] w8 wA := by rw [hwA]; exact (Kp.refl _ w8).setBlk (.inl (by simp)) _
  rw [← hwA]
  obtain ⟨S, hS, hSn⟩ := f8.ex
  have hlS := hS.lt
  have hsA := kA.size
  have h58 := f8.kp.size
  have h5x := lt_of_blk hx5
  have h5z := lt_of_blk hz5
  have hsz5 := c5.kp.size
  have hx0 := c5.x0
  have hxS := c5.xS
  have k5A : Kp [x] w5 wA := ((Kp.refl [x] w5).trans f8.kp fun q hq hlt => by simp at hq).trans kA fun q hq hlt => hq
  have k0A : Kp [] w0 wA := (c5.kp.trans' f8.kp).trans kA fun q hq hlt => by simp at hq; omega
  have hvA : LedS wA (.agg #[a, v8, cc, .int .i64 (heldL l o.sku o.loc o.q).ops]) { heldL l o.sku o.loc o.q with ho := l.ho ++ [⟨(l.ho.length + 1 : Nat), o.sku, o.loc, o.q, 0, o.due⟩] } (SA ++ (S ++ SC)) := by
    refine ⟨⟨a, v8, cc, SA, S, SC, rfl, ha5.keep k5A (fun q hq => by simp; intro e; exact hxS (by rw [hS4e, ← e]; simp [hq])), .inr (hS.keep kA fun q hq => by have := hSn q hq; simp; omega).rd, hc5.keep k5A (fun q hq => by simp; intro e; exact hxS (by rw [hS4e, ← e]; simp [hq])), rfl⟩, fun q hq => ?_⟩
    simp only [List.mem_append] at hq
    rcases hq with hq | hq | hq
    · have := hl5.lt q (by rw [hS4e]; simp [hq]); omega
    · have := hlS q hq; omega
    · have := hl5.lt q (by rw [hS4e]; simp [hq]); omega
  have hcond : ∀ q ∈ SA ++ (S ++ SC), (q ∈ S4 ∨ w5.heap.size ≤ q) := fun q hq => by
    simp only [List.mem_append] at hq
    rcases hq with hq | hq | hq
    · exact .inl (by rw [hS4e]; simp [hq])
    · exact .inr (hSn q hq)
    · exact .inl (by rw [hS4e]; simp [hq])
  have hz1l := lt_of_blk hz1
  refine led_ret (l := { heldL l o.sku o.loc o.q with ho := l.ho ++ [⟨(l.ho.length + 1 : Nat), o.sku, o.loc, o.q, 0, o.due⟩] }) (K := fun v w => K (.tuple #[v, .int .i64 0]) w) hxA (kA.get hz8 (by simpa using hzx)) hvA (fun hm => ?_) fun w' hkz hvz => ?_
  · rcases hcond z hm with e | e
    · rcases hS4 z e with e | e
      · exact hzS e
      · omega
    · omega
  · exact hK _ _ _ _ _ (k0A.trans hkz fun q hq hlt => by simp at hq; omega) hvz (by rw [if_neg (by omega)]; rfl) fun q hq => by
      rcases hcond q hq with e | e
      · exact c5.new q e
      · exact .inr (by omega)
end Go.Proofs

/- Layer 7: the document's ledger: does, joined. -/
set_option linter.unusedVariables false
set_option linter.unusedSimpArgs false
namespace Go.Proofs
open Go Go.Q
theorem refDoes_spec {w : World} {v : Value} {l : LV} {S0 : List Nat} (hm : May l) (hgd : Good l) (hs : Sorted l.st) (hv : LedS w v l S0) (hl : l.st.length + l.ho.length < 2 ^ 18) (hlm : l.mo.length < 2 ^ 18) (o : OpV) (hq : rngI o.q) (hk : 1 ≤ o.k ∧ o.k ≤ 7) (hq1 : o.k = 1 → 0 ≤ o.q) (hid : o.k = 3 ∨ o.k = 4 → 1 ≤ o.id) {K : Value → World → Prop}
    (hK : ∀ v' w' S', Kp [] w w' → LedS w' v' (doesL l o).1 S' → (∀ q ∈ S', q ∈ S0 ∨ w.heap.size ≤ q) → K (.tuple #[v', .int .i64 (doesL l o).2]) w') : callG Try.prog 97 #[v, .agg (opC o).toArray] w K := by
  refine ref07_does_call ?_
  have hlt0 := hv.lt
  unfold ref07_does ref07_does_s10
  refine argVar hv fun x w1 c1 => ?_
  refine argBox (cs := opC o) fun y w2 hy hh2 hk2 => ?_
  rw [newG_k, zcLed]
  obtain ⟨z, hz⟩ : ∃ z, z = w2.heap.size := ⟨_, rfl⟩
  obtain ⟨w3, hw3⟩ := ex_w (w' := w2.alloc (.cells [.slice none 0 0, .slice none 0 0, .slice none 0 0, .int .i64 0].toArray 60))
  have hk3 : Kp [] w2 w3 := by rw [hw3]; exact kp_alloc
  have hz3 : w3.heap[z]? = some (.cells [.slice none 0 0, .slice none 0 0, .slice none 0 0, .int .i64 0].toArray 60) := by rw [hw3, hz]; exact heap_new
  rw [← hw3, ← hz]
  have hy3 := hk3.get hh2 (by simp)
  have hy3' := hy3
  unfold opC at hy3'
  simp [-getElem?_pos, -Array.all_eq_true, -Array.getElem?_eq_getElem, -List.length_flatten, List.getElem?_cons_zero, List.getElem?_cons_succ, hy3', zcStock, str_nil, bld_done, bld_if, offAt, putAt, -ldn_p, -stn_p, -newG_k]
  refine boxStock (o := ⟨o.sku, o.loc, 0, 0⟩) rfl fun t w4 ht hh4 hk4 => ?_
  have c4 := ((c1.keep hk2).keep hk3).keep hk4
  have hy4 := hk4.get hy3 (by simp)
  have hy4' := hk4.get hy3' (by simp)
  have hz4 := hk4.get hz3 (by simp)
  unfold ref07_does_s9 ref07_does_s8
  simp [-getElem?_pos, -Array.all_eq_true, -Array.getElem?_eq_getElem, -List.length_flatten, List.getElem?_cons_zero, List.getElem?_cons_succ, hy4', -ldn_p, -stn_p, -newG_k]
  have hs1 := c1.kp.size
  have hs2 := hk2.size
  have hzS : z ∉ S0 := fun hm => by have := hlt0 z hm; omega
  have hx1 : x < w1.heap.size := by
    obtain ⟨_, _, _, h1, _⟩ := c1.ex
    exact lt_of_blk h1
  unfold ref07_does_s7
  simp [-getElem?_pos, -Array.all_eq_true, -Array.getElem?_eq_getElem, -List.length_flatten, List.getElem?_cons_zero, List.getElem?_cons_succ, -ldn_p, -stn_p, -newG_k]
  refine ⟨fun e1 => ?_, fun e1 => ?_⟩
  · refine refDoes_s1 hm hs c4 o hq (by omega) (by omega) hy4 hz4 hh4 (by omega) (by omega) hzS fun v' w' S' l' e hk hv' he hS => ?_
    have hd : doesL l o = (l', e) := by
      rw [he]
      unfold doesL
      rw [if_pos (.inl e1)]
      split
      · rfl
      · rename_i h0
        rw [if_neg (put_held hgd (hq1 e1) (by omega))]
    rw [hd] at hK
    exact hK v' w' S' hk hv' hS
  unfold ref07_does_s6 ref07_does_s5
  simp [-getElem?_pos, -Array.all_eq_true, -Array.getElem?_eq_getElem, -List.length_flatten, List.getElem?_cons_zero, List.getElem?_cons_succ, -ldn_p, -stn_p, -newG_k]
  refine ⟨fun e2 => ?_, fun e2 => ?_⟩
  · refine refDoes_hold hm hs c4 o hq hl hlm hy4 hz4 hh4 (by omega) (by omega) (by omega) hzS fun v' w' S' l' e hk hv' he hS => ?_
    have hd : doesL l o = (l', e) := by
      rw [he]
      unfold doesL
      rw [if_neg (by omega), if_pos e2]
    rw [hd] at hK
    exact hK v' w' S' hk hv' hS
  have hover : o.k = 3 ∨ o.k = 4 → ref07_does_s3 K (.pointer (some ⟨x, 0, none⟩)) (.pointer (some ⟨y, 0, none⟩)) (.pointer (some ⟨z, 0, none⟩)) (.pointer (some ⟨t, 0, none⟩)) (.int .i64 o.k) (.bool true) w4 := by
    intro e
    have hd : doesL l o = overL l o := by
      unfold doesL
      rw [if_neg (by omega), if_neg (by omega), if_neg (by omega), if_neg (by omega)]
    rw [hd] at hK
    exact refDoes_over (t := t) hs c4 o (hid e) hl hlm hy4 hz4 (by omega) hzS hK
  unfold ref07_does_s4
  simp [-getElem?_pos, -Array.all_eq_true, -Array.getElem?_eq_getElem, -List.length_flatten, List.getElem?_cons_zero, List.getElem?_cons_succ, -ldn_p, -stn_p, -newG_k]
  refine ⟨fun e3 => hover (.inl e3), fun e3 => ?_⟩
  by_cases e4 : o.k = 4
  · rw [decide_eq_true e4]
    exact hover (.inr e4)
  rw [decide_eq_false e4]
  by_cases e5 : o.k = 5
  · have hd : doesL l o = (expireL l o.due 0 l.ho.length, 0) := by
      unfold doesL
      rw [if_neg (by omega), if_neg (by omega), if_pos e5]
    rw [hd] at hK
    rw [e5]
    exact refDoes_expire (t := t) hs c4 o hl hy4 hz4 (by omega) hzS hK
  by_cases e6 : o.k = 6
  · rw [e6]
    refine refDoes_transfer hm hs c4 o hq (by omega) hlm hy4 hz4 hh4 (by omega) (by omega) (by omega) hzS fun v' w' S' l' e hk hv' he hS => ?_
    have hd : doesL l o = (l', e) := by
      rw [he]
      unfold doesL
      rw [if_neg (by omega), if_neg (by omega), if_neg (by omega), if_pos e6]
    rw [hd] at hK
    exact hK v' w' S' hk hv' hS
  have e7 : o.k = 7 := by omega
  unfold ref07_does_s3
  simp [-getElem?_pos, -Array.all_eq_true, -Array.getElem?_eq_getElem, -List.length_flatten, List.getElem?_cons_zero, List.getElem?_cons_succ, e7, -ldn_p, -stn_p, -newG_k]
  refine refDoes_s0 hm hs c4 o hq (by omega) hlm hy4 hz4 hh4 (by omega) (by omega) hzS fun v' w' S' l' e hk hv' he hS => ?_
  have hd : doesL l o = (l', e) := by
    rw [he]
    unfold doesL
    rw [if_pos (.inr e7)]
  rw [hd] at hK
  exact hK v' w' S' hk hv' hS
end Go.Proofs

/- Layer 7: the document's step; ledgers in variables. -/
set_option linter.unusedVariables false
set_option linter.unusedSimpArgs false
namespace Go.Proofs
open Go Go.Q
/-- a ledger that a call gave, in a variable of its own -/
theorem varLed {w : World} {v : Value} {l : LV} {S : List Nat} (hv : LedS w v l S) {K : Value → World → Prop}
    (hK : ∀ p w1 a b c, w.heap.size ≤ p → p < w1.heap.size → w1.heap[p]? = some (.cells #[a, b, c, .int .i64 l.ops] 60) → v = .agg #[a, b, c, .int .i64 l.ops] → Kp [] w w1 → LedS w1 v l S → K (.pointer (some ⟨p, 0, none⟩)) w1) :
    newG (zc Try.prog 60) 60 w fun p w => stn 4 p v w fun w => K p w := by
  obtain ⟨a, b, c, SA, SB, SC, rfl, h1, h2, h3, _⟩ := hv.ex
  have hone := LedAt.ones (l := l) ⟨_, h1⟩ ⟨_, h2⟩ ⟨_, h3⟩
  refine boxG (c := #[a, b, c, .int .i64 l.ops]) (by kernel_rfl) rfl (by simpa using hone) fun p w1 hp hh hk => ?_
  exact hK p w1 a b c hp (lt_of_blk hh) hh rfl hk (hv.keep hk (by simp))
theorem ok_q1 {o : OpV} (h : o.ok = true) (hk : o.k = 1) : 0 ≤ o.q := by
  unfold OpV.ok at h
  simp [hk] at h
  omega
set_option maxRecDepth 100000 in
theorem refStep_spec {w : World} {v : Value} {l : LV} {S0 : List Nat} (hm : May l) (hv : LedS w v l S0) (o : OpV) (hq : rngI o.q) {K : Value → World → Prop}
    (hK : ∀ v' w' S', Kp [] w w' → LedS w' v' (stepL l o).1 S' → (∀ q ∈ S', q ∈ S0 ∨ w.heap.size ≤ q) → K (.tuple #[v', .int .i64 (stepL l o).2]) w') : callG Try.prog 68 #[v, .agg (opC o).toArray] w K := by
  refine ref07_Step_call ?_
  have hlt0 := hv.lt
  have hfew := hm.few
  have hops0 := hm.ops
  simp only [fullL, decide_eq_false_iff_not, not_or] at hfew
  unfold ref07_Step ref07_Step_s1
  refine argVar hv fun x2 w1 c1 => ?_
  refine argBox (cs := opC o) fun y w2 hy hh2 hk2 => ?_
  rw [newG_k, zcLed]
  obtain ⟨z, hz⟩ : ∃ z, z = w2.heap.size := ⟨_, rfl⟩
  obtain ⟨w3, hw3⟩ := ex_w (w' := w2.alloc (.cells [.slice none 0 0, .slice none 0 0, .slice none 0 0, .int .i64 0].toArray 60))
  have hk3 : Kp [] w2 w3 := by rw [hw3]; exact kp_alloc
  have hz3 : w3.heap[z]? = some (.cells [.slice none 0 0, .slice none 0 0, .slice none 0 0, .int .i64 0].toArray 60) := by rw [hw3, hz]; exact heap_new
  rw [← hw3, ← hz]
  have c3 := (c1.keep hk2).keep hk3
  have hs1 := c1.kp.size
  have hs2 := hk2.size
  have hzl := lt_of_blk hz3
  have hzS : z ∉ S0 := fun hm => by have := hlt0 z hm; omega
  have hy3 := hk3.get hh2 (by simp)
  have give : ∀ (e : Int) w', LVar w w' x2 l S0 S0 → w'.heap[z]? = some (.cells [.slice none 0 0, .slice none 0 0, .slice none 0 0, .int .i64 0].toArray 60) → stepL l o = (l, e) →
      ldn 4 (.pointer (some ⟨x2, 0, none⟩)) w' fun t67 => stn 4 (.pointer (some ⟨z, 0, none⟩)) t67 w' fun w => qG Try.prog (do loadVar 60 (← asAddr (.pointer (some ⟨z, 0, none⟩)))) w fun r4 => K (.tuple #[r4, .int .i64 e]) w := by
    intro e w' cx hzx he
    rw [he] at hK
    exact led_give (K := fun v w => K (.tuple #[v, .int .i64 e]) w) cx hzx (by omega) hzS fun v' w' hk hv' => hK v' w' S0 hk hv' fun q hq => .inl hq
  rw [ldAll (k := 7) hy3 rfl]
  refine MayOp_spec o fun w4 hk4 => ?_
  have c4 := c3.keep hk4
  have hz4 := hk4.get hz3 (by simp)
  have hy4 := hk4.get hy3 (by simp)
  simp only [un_not, bV_b]
  refine ⟨fun hok => ?_, fun hok => ?_⟩
  · exact give 1 w4 c4 hz4 (by unfold stepL; rw [if_pos (by simpa using hok)])
  · have hok : o.ok = true := by simpa using hok
    have hdo := ok_doH hm hq hok
    obtain ⟨v4, hld4, hv4⟩ := c4.ld
    rw [hld4, ldAll (k := 7) hy4 rfl]
    have hg : Good l := hm.m
    refine refDoes_spec hm hg hm.sorted hv4 (by omega) (by omega) o hq ⟨hdo.k0, hdo.k1⟩ (ok_q1 hok) hdo.id fun v5 w5 S5 k5 hv5 hS5 => ?_
    have ⟨l', hl'⟩ : ∃ l' : LV, l' = (doesL l o).1 := Exists.intro (doesL l o).1 (Eq.refl _)
    rw [← hl'] at hv5
    have c5 := c4.keep k5
    have hz5 := k5.get hz4 (by simp)
    simp only [ex0, ex1]
    refine varLed hv5 fun p w6 a b c hp hpl hh6 hve k6 hv6 => ?_
    have c6 := c5.keep k6
    have hz6 := k6.get hz5 (by simp)
    simp only [bq_neq, bV_b, decide_eq_true_eq, decide_eq_false_iff_not]
    refine ⟨fun e => give _ w6 c6 hz6 (by unfold stepL; rw [if_neg (by simp [hok]), if_pos e]), fun e => ?_⟩
    have e0 : (doesL l o).2 = 0 := Decidable.not_not.1 e
    rw [ldAll (k := 4) hh6 rfl, ← hve]
    refine refFull_spec hv6.at fun w7 k7 => ?_
    have c7 := c6.keep k7
    have hz7 := k7.get hz6 (by simp)
    have hh7 := k7.get hh6 (by simp)
    simp only [bV_b]
    refine ⟨fun e2 => give 2 w7 c7 hz7 (by unfold stepL; rw [if_neg (by simp [hok]), if_neg e, if_pos (.inl (by rw [← hl']; exact e2))]), fun e2 => ?_⟩
    obtain ⟨xa, xb, xc, hxx, _⟩ := c7.ex
    simp only [fa_p, Nat.add_zero, Nat.zero_add]
    rw [ldF hxx (j := 3) (x := .int .i64 l.ops) rfl]
    simp only [bq_geq, bV_b, decide_eq_true_eq, decide_eq_false_iff_not]
    refine ⟨fun e3 => give 2 w7 c7 hz7 (by unfold stepL; rw [if_neg (by simp [hok]), if_neg e, if_pos (.inr (by omega))]), fun e3 => ?_⟩
    have hstep : stepL l o = ({ l' with ops := l.ops + 1 }, 0) := by
      unfold stepL
      rw [if_neg (by simp [hok]), if_neg e, if_neg, hl']
      rw [not_or]
      exact ⟨by rw [← hl']; simp [e2], by omega⟩
    unfold ref07_Step_s0
    simp only [fa_p, Nat.add_zero, Nat.zero_add]
    have hiw : IntKind.i64.wrap (l.ops + 1) = l.ops + 1 := by rw [w64 (by omega) (by omega)]
    rw [ldF hxx (j := 3) (x := .int .i64 l.ops) rfl]
    simp only [bq_add, hiw]
    rw [stF hh7 (by simp) rfl]
    obtain ⟨wA, hwA⟩ : ∃ wA, wA = setBlk w7 p (.cells #[a, b, c, .int .i64 (l.ops + 1)] 60) := ⟨_, rfl⟩
    have hwA' : setBlk w7 p (.cells (#[a, b, c, .int .i64 l'.ops].setIfInBounds 3 (.int .i64 (l.ops + 1))) 60) = wA := by rw [hwA]; rfl
    rw [hwA']
    have kA : Kp [p] w7 wA := by rw [hwA]; exact (Kp.refl _ _).setBlk (.inl (by simp)) _
    have hpA : wA.heap[p]? = some (.cells #[a, b, c, .int .i64 (l.ops + 1)] 60) := by rw [hwA]; exact heap_self (live_of hh7)
    have s4 := c4.kp.size
    have s5 := k5.size
    have hk4s := hk4.size
    have hpz : z ≠ p := by omega
    have hlt5 := hv5.lt
    have hpS : p ∉ S5 := fun hm => by have := hlt5 p hm; omega
    have hv7 := hv6.keep k7 (by simp)
    have hvA0 := hv7.keep kA (fun q hq => by simp; intro e; exact hpS (e ▸ hq))
    have hvA : LedS wA (.agg #[a, b, c, .int .i64 (l.ops + 1)]) { l' with ops := l.ops + 1 } S5 := by
      obtain ⟨a', b', c', SA, SB, SC, e, h1, h2, h3, h4⟩ := hvA0.ex
      rw [hve] at e
      simp only [Value.agg.injEq, Array.mk.injEq, List.cons.injEq] at e
      obtain ⟨rfl, rfl, rfl, _⟩ := e
      exact ⟨⟨_, _, _, SA, SB, SC, rfl, h1, h2, h3, h4⟩, hvA0.lt⟩
    rw [hstep] at hK
    rw [ldAll (k := 4) hpA rfl]
    have hS5' : ∀ q ∈ S5, q ∈ S0 ∨ w.heap.size ≤ q := fun q hq => (hS5 q hq).imp id fun h => by omega
    refine led_put (K := fun v w => K (.tuple #[v, .int .i64 0]) w) (kA.get hz7 (by simpa using hpz)) hvA (fun hm => ?_) fun w' hk' hv' => hK _ w' S5 (((c7.kp).trans kA fun q hq hlt => by simp at hq; omega).trans hk' fun q hq hlt => by simp at hq; omega) hv' hS5'
    rcases hS5 z hm with h | h
    · exact hzS h
    · omega
/-! ### ledgers in variables -/
/-- a ledger of which no list lies in the variables X -/
def LX (X : List Nat) (w : World) (v : Value) (l : LV) : Prop := ∃ S, LedS w v l S ∧ ∀ q ∈ S, q ∉ X
/-- a ledger in the variable x -/
structure VX (X : List Nat) (w : World) (x : Nat) (l : LV) : Prop where
  m : x ∈ X
  ex : ∃ v a b c, w.heap[x]? = some (.cells #[a, b, c, .int .i64 l.ops] 60) ∧ v = .agg #[a, b, c, .int .i64 l.ops] ∧ LX X w v l
section
variable {X : List Nat} {w w' : World} {v : Value} {l l' : LV} {x y : Nat}
theorem LX.keepS {S : List Nat} (h : LX X w v l) (hk : Kp S w w') (hS : ∀ q ∈ S, q ∈ X) : LX X w' v l := by
  obtain ⟨T, h1, h2⟩ := h
  exact ⟨T, h1.keep hk (fun q hq hm => h2 q hq (hS q hm)), h2⟩
theorem LX.keep (h : LX X w v l) (hk : Kp [] w w') : LX X w' v l := h.keepS hk (by simp)
theorem LX.more {p : Nat} (h : LX X w v l) (hp : w.heap.size ≤ p) : LX (p :: X) w v l := by
  obtain ⟨T, h1, h2⟩ := h
  refine ⟨T, h1, fun q hq hm => ?_⟩
  rcases List.mem_cons.1 hm with rfl | hm
  · have := h1.lt q hq; omega
  · exact h2 q hq hm
theorem LX.at (h : LX X w v l) : LedAt w v l := by
  obtain ⟨T, h1, h2⟩ := h
  exact h1.at
theorem VX.keepS {S : List Nat} (h : VX X w x l) (hk : Kp S w w') (hS : ∀ q ∈ S, q ∈ X) (hx : x ∉ S) : VX X w' x l := by
  obtain ⟨v, a, b, c, h1, h2, h3⟩ := h.ex
  exact ⟨h.m, v, a, b, c, hk.get h1 hx, h2, h3.keepS hk hS⟩
theorem VX.keep (h : VX X w x l) (hk : Kp [] w w') : VX X w' x l := h.keepS hk (by simp) (by simp)
theorem VX.more {p : Nat} (h : VX X w x l) (hp : w.heap.size ≤ p) : VX (p :: X) w x l := by
  obtain ⟨v, a, b, c, h1, h2, h3⟩ := h.ex
  exact ⟨List.mem_cons_of_mem _ h.m, v, a, b, c, h1, h2, h3.more hp⟩
theorem VX.ld (h : VX X w x l) : ∃ v, (∀ K : Value → Prop, ldn 4 (.pointer (some ⟨x, 0, none⟩)) w K = K v) ∧ LX X w v l := by
  obtain ⟨v, a, b, c, h1, h2, h3⟩ := h.ex
  exact ⟨v, fun K => by rw [h2]; exact ldAll h1 rfl, h3⟩
theorem VX.box (h : VX X w x l) : ∃ a b c, LBox w x a b c l := by
  obtain ⟨v, a, b, c, h1, h2, h3⟩ := h.ex
  obtain ⟨a', b', c', e, r1, r2, r3⟩ := h3.at
  rw [h2] at e
  simp only [Value.agg.injEq, Array.mk.injEq, List.cons.injEq] at e
  obtain ⟨rfl, rfl, rfl, _⟩ := e
  exact ⟨_, _, _, h1, r1, r2, r3⟩
theorem VX.lt (h : VX X w x l) : x < w.heap.size := by
  obtain ⟨v, a, b, c, h1, h2, h3⟩ := h.ex
  exact lt_of_blk h1
/-- another ledger is put there -/
theorem VX.st (h : VX X w x l) (hv : LX X w v l') {K : World → Prop} (hK : ∀ w2, Kp [x] w w2 → VX X w2 x l' → K w2) : stn 4 (.pointer (some ⟨x, 0, none⟩)) v w K := by
  obtain ⟨_, a, b, c, h1, h2, h3⟩ := h.ex
  obtain ⟨T, hv1, hv2⟩ := hv
  obtain ⟨a', b', c', SA, SB, SC, rfl, r1, r2, r3, _⟩ := hv1.ex
  have hone := LedAt.ones (l := l') ⟨_, r1⟩ ⟨_, r2⟩ ⟨_, r3⟩
  rw [stAll (k := 4) h1 rfl rfl hone]
  have hkx : Kp [x] w (setBlk w x (.cells #[a', b', c', .int .i64 l'.ops] 60)) := (Kp.refl _ w).setBlk (.inl (by simp)) _
  have hm := h.m
  exact hK _ hkx ⟨hm, _, a', b', c', heap_self (live_of h1), rfl, T, hv1.keep hkx (fun q hq => by simp; intro e; exact hv2 q hq (e ▸ hm)), hv2⟩
theorem lz_led (w : World) : LedS w (.agg #[.slice none 0 0, .slice none 0 0, .slice none 0 0, .int .i64 0]) lZ [] :=
  ⟨⟨_, _, _, [], [], [], rfl, .inr (.inl ⟨rfl, rfl⟩), .inr (.inl ⟨rfl, rfl⟩), .inr (.inl ⟨rfl, rfl⟩), rfl⟩, by simp⟩
theorem lz_x (w : World) : LX X w (.agg #[.slice none 0 0, .slice none 0 0, .slice none 0 0, .int .i64 0]) lZ := ⟨[], lz_led w, by simp⟩
/-- a variable more -/
theorem newVX (hv : LX X w v l) {K : Value → World → Prop} (hK : ∀ p w1, w.heap.size ≤ p → Kp [] w w1 → VX (p :: X) w1 p l → K (.pointer (some ⟨p, 0, none⟩)) w1) :
    newG (zc Try.prog 60) 60 w fun p w => stn 4 p v w fun w => K p w := by
  obtain ⟨T, hv1, hv2⟩ := hv
  refine varLed hv1 fun p w1 a b c hp hpl hh hve hk hv' => hK p w1 hp hk ⟨by simp, v, a, b, c, hh, hve, T, hv', fun q hq hm => ?_⟩
  rcases List.mem_cons.1 hm with rfl | hm
  · have := hv1.lt q hq; omega
  · exact hv2 q hq hm
/-- an empty one -/
theorem zeroVX {K : Value → World → Prop} (hK : ∀ p w1, w.heap.size ≤ p → Kp [] w w1 → VX (p :: X) w1 p lZ → K (.pointer (some ⟨p, 0, none⟩)) w1) : newG (zc Try.prog 60) 60 w K := by
  rw [newG_k, zcLed]
  exact hK _ _ (Nat.le_refl _) kp_alloc ⟨by simp, _, _, _, _, heap_new, rfl, [], lz_led _, by simp⟩
/-- an argument's -/
theorem argVX (hv : LX X w v l) {K : Value → World → Prop} (hK : ∀ p w1, w.heap.size ≤ p → Kp [] w w1 → VX (p :: X) w1 p l → K (.pointer (some ⟨p, 0, none⟩)) w1) : newG (Value.cells v) 60 w K := by
  obtain ⟨T, hv1, hv2⟩ := hv
  obtain ⟨a, b, c, SA, SB, SC, e, h1, h2, h3, _⟩ := hv1.ex
  subst e
  refine argBox (cs := [a, b, c, .int .i64 l.ops]) fun p w1 hp hh hk => ?_
  refine hK p w1 hp hk ⟨by simp, _, a, b, c, hh, rfl, T, hv1.keep hk (by simp), fun q hq hm => ?_⟩
  rcases List.mem_cons.1 hm with rfl | hm
  · have := hv1.lt q hq; omega
  · exact hv2 q hq hm
end
end Go.Proofs

/- Layer 7: Apply and Replay, of the program and of the document. -/
set_option maxRecDepth 100000
set_option linter.unusedVariables false
set_option linter.unusedSimpArgs false
namespace Go.Proofs
open Go Go.Q
def applyL (l : LV) (o : OpV) : LV × Int := if (stepL l o).2 = 0 then ((stepL l o).1, 0) else (lZ, (stepL l o).2)
def replayL : LV → List OpV → Nat → LV × Nat × Int
  | l, [], k => (l, k, 0)
  | l, o :: r, k => if (stepL l o).2 = 0 then replayL (stepL l o).1 r (k + 1) else (l, k, (stepL l o).2)
section
variable {X : List Nat} {w w' : World} {v : Value} {l l' : LV} {x y : Nat}
theorem LX.less {Y : List Nat} (h : LX X w v l) (hY : ∀ q ∈ Y, q ∈ X) : LX Y w v l := by
  obtain ⟨T, h1, h2⟩ := h
  exact ⟨T, h1, fun q hq hm => h2 q hq (hY q hm)⟩
theorem retVX {z : Nat} {l0 : LV} (h : VX X w z l0) (hv : LX X w v l') {K : Value → World → Prop} (hK : ∀ w', Kp [z] w w' → LX X w' v l' → K v w') :
    stn 4 (.pointer (some ⟨z, 0, none⟩)) v w fun w => qG Try.prog (do loadVar 60 (← asAddr (.pointer (some ⟨z, 0, none⟩)))) w fun r4 => K r4 w := by
  obtain ⟨_, a, b, c, h1, h2, h3⟩ := h.ex
  have hm := h.m
  have hv' := hv
  obtain ⟨T, hv1, hv2⟩ := hv
  obtain ⟨a', b', c', SA, SB, SC, e, r1, r2, r3, _⟩ := hv1.ex
  subst e
  have hone := LedAt.ones (l := l') ⟨_, r1⟩ ⟨_, r2⟩ ⟨_, r3⟩
  rw [stAll (k := 4) h1 rfl rfl hone, lvLedw (heap_self (live_of h1)) rfl]
  have hkx : Kp [z] w (setBlk w z (.cells #[a', b', c', .int .i64 l'.ops] 60)) := (Kp.refl _ w).setBlk (.inl (by simp)) _
  exact hK _ hkx (hv'.keepS hkx fun q hq => by simp at hq; exact hq ▸ hm)
theorem step_X (hm : May l) (hv : LX X w v l) (hX : ∀ q ∈ X, q < w.heap.size) (o : OpV) (hq : rngI o.q) {K : Value → World → Prop}
    (hK : ∀ v' w', Kp [] w w' → LX X w' v' (stepL l o).1 → K (.tuple #[v', .int .i64 (stepL l o).2]) w') : callG Try.prog 67 #[v, .agg (opC o).toArray] w K := by
  obtain ⟨T, h1, h2⟩ := hv
  refine step_spec hm h1 o hq fun v' w' S' hk hv' hS => hK v' w' hk ⟨S', hv', fun q hq hm => ?_⟩
  rcases hS q hq with h | h
  · exact h2 q h hm
  · have := hX q hm; omega
theorem refStep_X (hm : May l) (hv : LX X w v l) (hX : ∀ q ∈ X, q < w.heap.size) (o : OpV) (hq : rngI o.q) {K : Value → World → Prop}
    (hK : ∀ v' w', Kp [] w w' → LX X w' v' (stepL l o).1 → K (.tuple #[v', .int .i64 (stepL l o).2]) w') : callG Try.prog 68 #[v, .agg (opC o).toArray] w K := by
  obtain ⟨T, h1, h2⟩ := hv
  refine refStep_spec hm h1 o hq fun v' w' S' hk hv' hS => hK v' w' hk ⟨S', hv', fun q hq hm => ?_⟩
  rcases hS q hq with h | h
  · exact h2 q h hm
  · have := hX q hm; omega
theorem zLed_bld {K : Value → Prop} : bld [(0, 1), (1, 1), (2, 1), (3, 1)] (zc Try.prog 60) #[] K = K (.agg #[.slice none 0 0, .slice none 0 0, .slice none 0 0, .int .i64 0]) := by rw [zcLed, bld_done]
theorem Apply_X (hm : May l) (hv : LX X w v l) (hX : ∀ q ∈ X, q < w.heap.size) (o : OpV) (hq : rngI o.q) {K : Value → World → Prop}
    (hK : ∀ v' w', Kp [] w w' → LX X w' v' (applyL l o).1 → K (.tuple #[v', .int .i64 (applyL l o).2]) w') : callG Try.prog 39 #[v, .agg (opC o).toArray] w K := by
  refine ledger_Apply_call ?_
  unfold ledger_Apply ledger_Apply_s0
  refine argVX hv fun p2 w1 hp2 k1 c1 => ?_
  refine argBox (cs := opC o) fun y w2 hy hh2 k2 => ?_
  have c2 := c1.keep k2
  refine zeroVX (X := p2 :: X) fun p4 w3 hp4 k3 c4 => ?_
  have c3 := (c2.more hp4).keep k3
  have s1 := k1.size
  have s2 := k2.size
  have s3 := k3.size
  have hy3 := k3.get hh2 (by simp)
  have k03 := (k1.trans' k2).trans' k3
  have hX3 : ∀ q ∈ p4 :: p2 :: X, q < w3.heap.size := fun q hq => by
    rcases List.mem_cons.1 hq with rfl | hq
    · exact c4.lt
    · rcases List.mem_cons.1 hq with rfl | hq
      · exact c3.lt
      · have := hX q hq; omega
  have hsub : ∀ q ∈ X, q ∈ p4 :: p2 :: X := fun q hq => by simp [hq]
  obtain ⟨v3, hld3, hv3⟩ := c3.ld
  rw [hld3]
  refine Check_spec7 hm hv3.at fun w4 k4 => ?_
  simp only [bq_neq, bV_b, decide_eq_true_eq, decide_eq_false_iff_not]
  refine ⟨fun h => absurd rfl h, fun _ => ?_⟩
  have d3 := c3.keep k4
  have d4 := c4.keep k4
  have hy4 := k4.get hy3 (by simp)
  have s4 := k4.size
  obtain ⟨v4, hld4, hv4⟩ := d3.ld
  rw [hld4, ldAll (k := 7) hy4 rfl]
  refine step_X hm hv4 (fun q hq => by have := hX3 q hq; omega) o hq fun v5 w5 k5 hv5 => ?_
  have e4 := d4.keep k5
  have s5 := k5.size
  simp only [ex0, ex1]
  refine newVX hv5 fun p7 w6 hp7 k6 c7 => ?_
  have f4 := (e4.more hp7).keep k6
  have k06 := ((k03.trans' k4).trans' k5).trans' k6
  have hsub' : ∀ q ∈ X, q ∈ p7 :: p4 :: p2 :: X := fun q hq => by simp [hq]
  have hpw : w.heap.size ≤ p4 := by omega
  have fin : ∀ w', Kp [p4] w6 w' → Kp [] w w' := fun w' k => k06.trans k fun q hq hlt => by simp at hq; omega
  simp only [bq_neq, bV_b, decide_eq_true_eq, decide_eq_false_iff_not]
  refine ⟨fun e => ?_, fun e => ?_⟩
  · have ea : applyL l o = (lZ, (stepL l o).2) := by unfold applyL; rw [if_neg e]
    rw [ea] at hK
    rw [zLed_bld]
    exact retVX (K := fun v w => K (.tuple #[v, .int .i64 (stepL l o).2]) w) f4 (lz_x _) fun w' kz hz => hK _ w' (fin w' kz) (hz.less hsub')
  · have e0 : (stepL l o).2 = 0 := Decidable.not_not.1 e
    have ea : applyL l o = ((stepL l o).1, 0) := by unfold applyL; rw [if_pos e0]
    rw [ea] at hK
    obtain ⟨v7, hld7, hv7⟩ := c7.ld
    rw [hld7]
    exact retVX (K := fun v w => K (.tuple #[v, .int .i64 0]) w) f4 hv7 fun w' kz hz => hK _ w' (fin w' kz) (hz.less hsub')
/-- operations that were given -/
structure OpsAt (w : World) (v : Value) (ops : List OpV) : Prop where
  rd : Rd w v 7 (ops.map opC)
  wf : ∀ o ∈ ops, o.Wf
theorem OpsAt.keep {ops : List OpV} (h : OpsAt w v ops) (hk : Kp [] w w') : OpsAt w' v ops := ⟨h.rd.keep hk, h.wf⟩
theorem wf_rng {o : OpV} (h : o.Wf) : rngI o.q := ⟨h.q0, h.q1⟩
theorem replayL_drop {ops : List OpV} {i : Nat} (h : i < ops.length) (l : LV) (k : Nat) : replayL l (ops.drop i) k = if (stepL l ops[i]).2 = 0 then replayL (stepL l ops[i]).1 (ops.drop (i + 1)) (k + 1) else (l, k, (stepL l ops[i]).2) := by
  rw [List.drop_eq_getElem_cons h]; rfl
theorem Replay_X (hm : May l) (hv : LX X w v l) (hX : ∀ q ∈ X, q < w.heap.size) {vo : Value} {ops : List OpV} (ho : OpsAt w vo ops) (hl : ops.length < 2 ^ 40) {K : Value → World → Prop}
    (hK : ∀ v' w', Kp [] w w' → LX X w' v' (replayL l ops 0).1 → K (.tuple #[v', .int .i64 (replayL l ops 0).2.1, .int .i64 (replayL l ops 0).2.2]) w') : callG Try.prog 36 #[v, vo] w K := by
  refine ledger_Replay_call ?_
  unfold ledger_Replay ledger_Replay_s4
  refine argVX hv fun p2 w1 hp2 k1 c1 => ?_
  refine zeroVX (X := p2 :: X) fun p4 w3 hp4 k3 c4 => ?_
  have c3 := (c1.more hp4).keep k3
  have s1 := k1.size
  have s3 := k3.size
  have k03 := k1.trans' k3
  have hX3 : ∀ q ∈ p4 :: p2 :: X, q < w3.heap.size := fun q hq => by
    rcases List.mem_cons.1 hq with rfl | hq
    · exact c4.lt
    · rcases List.mem_cons.1 hq with rfl | hq
      · exact c3.lt
      · have := hX q hq; omega
  have hsub : ∀ q ∈ X, q ∈ p4 :: p2 :: X := fun q hq => by simp [hq]
  have hp24 : p2 ≠ p4 := by have := c1.lt; omega
  obtain ⟨v3, hld3, hv3⟩ := c3.ld
  rw [hld3]
  refine Check_spec7 hm hv3.at fun w4 k4 => ?_
  simp only [bq_neq, bV_b, decide_eq_true_eq, decide_eq_false_iff_not]
  refine ⟨fun h => absurd rfl h, fun _ => ?_⟩
  obtain ⟨E, hE⟩ : ∃ E, E = replayL l ops 0 := ⟨_, rfl⟩
  rw [← hE] at hK
  have o4 := (ho.keep k03).keep k4
  have k04 := k03.trans' k4
  have s4 := k4.size
  unfold ledger_Replay_s3 ledger_Replay_L2
  rw [o4.rd.lenL, List.length_map]
  refine loop_inv (fun m xs wi => ∃ (i : Nat) (li : LV) (Y : List Nat), i ≤ ops.length ∧ m = ops.length - i ∧ xs = [vo, .pointer (some ⟨p2, 0, none⟩), .pointer (some ⟨p4, 0, none⟩), vo, .int .i64 ops.length, .int .i64 (i : Nat)] ∧ E = replayL li (ops.drop i) i ∧ May li ∧ Kp [] w wi ∧ w4.heap.size ≤ wi.heap.size ∧
      (∀ q ∈ X, q ∈ Y) ∧ (∀ q ∈ Y, q < wi.heap.size) ∧ VX Y wi p2 li ∧ VX Y wi p4 lZ) ?_ (m := ops.length)
    ⟨0, l, p4 :: p2 :: X, by omega, rfl, rfl, hE, hm, k04, Nat.le_refl _, hsub, fun q hq => by have := hX3 q hq; omega, c3.keep k4, c4.keep k4⟩
  rintro m N xs wi ⟨i, li, Y, hi, rfl, rfl, he, hmi, ki, hsi, hXY, hY, ci, zi⟩ hN
  have hiw : IntKind.i64.wrap ((i : Int) + 1) = ((i + 1 : Nat) : Int) := by rw [w64 (by omega) (by omega)]; simp
  have oi := ho.keep ki
  unfold ledger_Replay_L2F ledger_Replay_b1
  simp only [bq_lss, bV_b, decide_eq_true_eq, decide_eq_false_iff_not]
  refine ⟨fun hlt => ?_, fun hge => ?_⟩
  · have hlt : i < ops.length := by omega
    rw [replayL_drop hlt] at he
    obtain ⟨p, i1, i2, _⟩ := rd_parts oi.rd hlt
    rw [i1, i2]
    refine boxG (c := (opC ops[i]).toArray) (by kernel_rfl) rfl (by simp [opC, one]) fun y w5 hy hh5 k5 => ?_
    have c5 := ci.keep k5
    have z5 := zi.keep k5
    have s5 := k5.size
    obtain ⟨v5, hld5, hv5⟩ := c5.ld
    rw [hld5, ldAll (k := 7) hh5 rfl]
    have hwf := ho.wf ops[i] (List.getElem_mem hlt)
    refine step_X hmi hv5 (fun q hq => by have := hY q hq; omega) ops[i] (wf_rng hwf) fun v6 w6 k6 hv6 => ?_
    have s6 := k6.size
    simp only [ex0, ex1]
    refine newVX hv6 fun p7 w7 hp7 k7 c7 => ?_
    have s7 := k7.size
    have c8 := ((c5.keep k6).more hp7).keep k7
    have z8 := ((z5.keep k6).more hp7).keep k7
    have k57 := (k5.trans' k6).trans' k7
    simp only [bq_neq, bV_b, decide_eq_true_eq, decide_eq_false_iff_not]
    refine ⟨fun e => ?_, fun e => ?_⟩
    · rw [if_neg e] at he
      rw [he] at hK
      obtain ⟨v8, hld8, hv8⟩ := c8.ld
      rw [hld8]
      refine retVX (K := fun v w => K (.tuple #[v, .int .i64 i, .int .i64 (stepL li ops[i]).2]) w) z8 hv8 fun w' kz hz => hK _ w' ((ki.trans' k57).trans kz fun q hq hlt => by simp at hq; omega) (hz.less fun q hq => by simp [hXY q hq])
    · have e0 : (stepL li ops[i]).2 = 0 := Decidable.not_not.1 e
      rw [if_pos e0] at he
      obtain ⟨v8, hld8, hv8⟩ := c7.ld
      rw [hld8]
      refine c8.st hv8 fun w9 k9 c9 => ?_
      simp only [bq_add, hiw]
      have hm9 := c9.m
      have s9 := k9.size
      refine hN (ops.length - (i + 1)) _ w9 (by omega) ⟨i + 1, _, p7 :: Y, by omega, rfl, rfl, he, stepL_may hmi hwf, (ki.trans' k57).trans k9 fun q hq hlt => by simp at hq; omega, by omega, fun q hq => by simp [hXY q hq], fun q hq => ?_, c9, z8.keepS k9 (fun q hq => by simp at hq; exact hq ▸ hm9) (by simpa using Ne.symm hp24)⟩
      rcases List.mem_cons.1 hq with rfl | hq
      · have := c7.lt; omega
      · have := hY q hq; omega
  · have hie : i = ops.length := by omega
    subst hie
    rw [List.drop_length] at he
    have he' : E = (li, ops.length, 0) := he
    rw [he'] at hK
    unfold ledger_Replay_s0
    obtain ⟨v8, hld8, hv8⟩ := ci.ld
    rw [hld8, oi.rd.lenL, List.length_map]
    exact retVX (K := fun v w => K (.tuple #[v, .int .i64 ops.length, .int .i64 0]) w) zi hv8 fun w' kz hz => hK _ w' (ki.trans kz fun q hq hlt => by simp at hq; omega) (hz.less hXY)
end
end Go.Proofs

/- Layer 7: the document's Replay; are ledgers the same? -/
set_option maxRecDepth 100000
set_option linter.unusedVariables false
set_option linter.unusedSimpArgs false
namespace Go.Proofs
open Go Go.Q
section
variable {X : List Nat} {w w' : World} {v : Value} {l l' : LV} {x y : Nat}
theorem refReplay_X (hm : May l) (hv : LX X w v l) (hX : ∀ q ∈ X, q < w.heap.size) {vo : Value} {ops : List OpV} (ho : OpsAt w vo ops) (hl : ops.length < 2 ^ 40) {K : Value → World → Prop}
    (hK : ∀ v' w', Kp [] w w' → LX X w' v' (replayL l ops 0).1 → K (.tuple #[v', .int .i64 (replayL l ops 0).2.1, .int .i64 (replayL l ops 0).2.2]) w') : callG Try.prog 37 #[v, vo] w K := by
  refine ref07_Replay_call ?_
  unfold ref07_Replay ref07_Replay_s4
  refine argVX hv fun p2 w1 hp2 k1 c1 => ?_
  refine zeroVX (X := p2 :: X) fun p4 w3 hp4 k3 c4 => ?_
  have c3 := (c1.more hp4).keep k3
  have s1 := k1.size
  have s3 := k3.size
  have k03 := k1.trans' k3
  have hX3 : ∀ q ∈ p4 :: p2 :: X, q < w3.heap.size := fun q hq => by
    rcases List.mem_cons.1 hq with rfl | hq
    · exact c4.lt
    · rcases List.mem_cons.1 hq with rfl | hq
      · exact c3.lt
      · have := hX q hq; omega
  have hsub : ∀ q ∈ X, q ∈ p4 :: p2 :: X := fun q hq => by simp [hq]
  have hp24 : p2 ≠ p4 := by have := c1.lt; omega
  obtain ⟨v3, hld3, hv3⟩ := c3.ld
  rw [hld3]
  refine refMay_true hm hv3.at fun w4 k4 => ?_
  simp only [un_not, bV_b, Bool.not_true, Bool.false_eq_true, false_implies, true_and, true_implies]
  obtain ⟨E, hE⟩ : ∃ E, E = replayL l ops 0 := ⟨_, rfl⟩
  rw [← hE] at hK
  have k04 := k03.trans' k4
  have s4 := k4.size
  unfold ref07_Replay_s3 ref07_Replay_L2
  refine loop_inv (fun m xs wi => ∃ (i : Nat) (li : LV) (Y : List Nat), i ≤ ops.length ∧ m = ops.length - i ∧ xs = [vo, .pointer (some ⟨p2, 0, none⟩), .pointer (some ⟨p4, 0, none⟩), .int .i64 (i : Nat)] ∧ E = replayL li (ops.drop i) i ∧ May li ∧ Kp [] w wi ∧ w4.heap.size ≤ wi.heap.size ∧
      (∀ q ∈ X, q ∈ Y) ∧ (∀ q ∈ Y, q < wi.heap.size) ∧ VX Y wi p2 li ∧ VX Y wi p4 lZ) ?_ (m := ops.length)
    ⟨0, l, p4 :: p2 :: X, by omega, rfl, rfl, hE, hm, k04, Nat.le_refl _, hsub, fun q hq => by have := hX3 q hq; omega, c3.keep k4, c4.keep k4⟩
  rintro m N xs wi ⟨i, li, Y, hi, rfl, rfl, he, hmi, ki, hsi, hXY, hY, ci, zi⟩ hN
  have hiw : IntKind.i64.wrap ((i : Int) + 1) = ((i + 1 : Nat) : Int) := by rw [w64 (by omega) (by omega)]; simp
  have oi := ho.keep ki
  unfold ref07_Replay_L2F ref07_Replay_b1
  dsimp only
  rw [oi.rd.lenL, List.length_map]
  simp only [bq_lss, bV_b, decide_eq_true_eq, decide_eq_false_iff_not]
  refine ⟨fun hlt => ?_, fun hge => ?_⟩
  · have hlt : i < ops.length := by omega
    rw [replayL_drop hlt] at he
    have kd : Kp [] wi wi.drew := kp_drew
    have od := oi.keep kd
    have hwf := ho.wf ops[i] (List.getElem_mem hlt)
    have cd := ci.keep kd
    have zd := zi.keep kd
    have hsd : wi.drew.heap.size = wi.heap.size := rfl
    -- what stands behind the step
    have tail : ∀ (w7 : World) (p7 : Nat), Kp [] wi w7 → wi.heap.size ≤ p7 → VX (p7 :: Y) w7 p2 li → VX (p7 :: Y) w7 p4 lZ → VX (p7 :: Y) w7 p7 (stepL li ops[i]).1 →
        qG Try.prog (bq .neq 26 (.tmp 29) (.const (.int .i64 0)) (.int .i64 (stepL li ops[i]).2) (.int .i64 0)) w7 fun t30 =>
        bV t30
        (ldn 4 (.pointer (some ⟨p2, 0, none⟩)) w7 fun t31 =>
        stn 4 (.pointer (some ⟨p4, 0, none⟩)) t31 w7 fun w =>
        qG Try.prog (do loadVar 60 (← asAddr (.pointer (some ⟨p4, 0, none⟩)))) w fun r4 =>
        K (.tuple #[r4, .int .i64 i, .int .i64 (stepL li ops[i]).2]) w)
        (ldn 4 (.pointer (some ⟨p7, 0, none⟩)) w7 fun t34 =>
        stn 4 (.pointer (some ⟨p2, 0, none⟩)) t34 w7 fun w =>
        qG Try.prog (bq .add 3 (.tmp 18) (.const (.int .i64 1)) (.int .i64 i) (.int .i64 1)) w fun t19 =>
        N [vo, .pointer (some ⟨p2, 0, none⟩), .pointer (some ⟨p4, 0, none⟩), t19] w) := by
      intro w7 p7 k7 hp7 c8 z8 c7
      have s7 := k7.size
      simp only [bq_neq, bV_b, decide_eq_true_eq, decide_eq_false_iff_not]
      refine ⟨fun e => ?_, fun e => ?_⟩
      · rw [if_neg e] at he
        rw [he] at hK
        obtain ⟨v8, hld8, hv8⟩ := c8.ld
        rw [hld8]
        refine retVX (K := fun v w => K (.tuple #[v, .int .i64 i, .int .i64 (stepL li ops[i]).2]) w) z8 hv8 fun w' kz hz => hK _ w' ((ki.trans' k7).trans kz fun q hq hlt => by simp at hq; omega) (hz.less fun q hq => by simp [hXY q hq])
      · have e0 : (stepL li ops[i]).2 = 0 := Decidable.not_not.1 e
        rw [if_pos e0] at he
        obtain ⟨v8, hld8, hv8⟩ := c7.ld
        rw [hld8]
        refine c8.st hv8 fun w9 k9 c9 => ?_
        simp only [bq_add, hiw]
        have hm9 := c9.m
        have s9 := k9.size
        refine hN (ops.length - (i + 1)) _ w9 (by omega) ⟨i + 1, _, p7 :: Y, by omega, rfl, rfl, he, stepL_may hmi hwf, (ki.trans' k7).trans k9 fun q hq hlt => by simp at hq; omega, by omega, fun q hq => by simp [hXY q hq], fun q hq => ?_, c9, z8.keepS k9 (fun q hq => by simp at hq; exact hq ▸ hm9) (by simpa using Ne.symm hp24)⟩
        rcases List.mem_cons.1 hq with rfl | hq
        · have := c7.lt; omega
        · have := hY q hq; omega
    obtain ⟨v5, hld5, hv5⟩ := cd.ld
    obtain ⟨p, i1, i2, _⟩ := rd_parts od.rd hlt
    have rp : ∀ w', Kp [] wi.drew w' → ∀ K : Value → Prop, ldn 7 p w' K = K (.agg (opC ops[i]).toArray) := fun w' k' K => by
      obtain ⟨p', j1, j2, _⟩ := rd_parts (od.keep k').rd hlt
      have e1 := i1 fun v => v = p'
      rw [j1] at e1
      have : p = p' := by simpa using e1.symm
      rw [this]; exact j2 K
    have rl : ∀ w', Kp [] wi.drew w' → ∀ K : Value → Prop, ldn 4 (.pointer (some ⟨p2, 0, none⟩)) w' K = K v5 := fun w' k' K => by
      obtain ⟨u, a, b, c, g1, g2, g3⟩ := cd.ex
      have e1 := hld5 fun v => v = u
      rw [ldAll (k := 4) g1 rfl, ← g2] at e1
      have : v5 = u := by simpa using e1.symm
      rw [this, ldAll (k := 4) (k'.get g1 (by simp)) rfl, ← g2]
    rw [hld5, i1, rp _ (Kp.refl _ _)]
    refine ⟨?_, ?_⟩
    · refine refStep_X hmi hv5 (fun q hq => by have := hY q hq; omega) ops[i] (wf_rng hwf) fun v6 w6 k6 hv6 => ?_
      have s6 := k6.size
      simp only [ex0, ex1]
      refine zeroVX (X := Y) fun p7 w7 hp7 k7 c7 => ?_
      have k67 := k6.trans' k7
      rw [rp _ k67, rl _ k67]
      simp only [stb_ex0, stb_ex1, true_and]
      have c8 := ((cd.keep k6).more hp7).keep k7
      have z8 := ((zd.keep k6).more hp7).keep k7
      have hv7 := (hv6.more hp7).keep k7
      refine c7.st hv7 fun w9 k9 c9 => ?_
      have hm9 := c9.m
      have n2 : p2 ≠ p7 := by have := (cd.keep k6).lt; omega
      have n4 : p4 ≠ p7 := by have := (zd.keep k6).lt; omega
      exact tail w9 p7 ((kd.trans' k67).trans k9 fun q hq hlt => by simp at hq; omega) (by omega) (c8.keepS k9 (fun q hq => by simp at hq; exact hq ▸ hm9) (by simpa using n2)) (z8.keepS k9 (fun q hq => by simp at hq; exact hq ▸ hm9) (by simpa using n4)) c9
    · refine zeroVX (X := Y) fun p7 w6 hp7 k6 c7 => ?_
      have s6 := k6.size
      rw [rp _ k6, rl _ k6]
      simp only [true_and]
      have c8 := ((cd).more hp7).keep k6
      have z8 := ((zd).more hp7).keep k6
      have hv6 := (hv5.more hp7).keep k6
      have hY7 : ∀ q ∈ p7 :: Y, q < w6.heap.size := fun q hq => by
        rcases List.mem_cons.1 hq with rfl | hq
        · exact c7.lt
        · have := hY q hq; omega
      refine refStep_X hmi hv6 hY7 ops[i] (wf_rng hwf) fun v7 w7 k7 hv7 => ?_
      simp only [ex0, ex1]
      refine (c7.keep k7).st hv7 fun w9 k9 c9 => ?_
      have hm9 := c9.m
      have n2 : p2 ≠ p7 := by have := cd.lt; omega
      have n4 : p4 ≠ p7 := by have := zd.lt; omega
      simp only [stb_ex0, stb_ex1, true_and]
      exact tail w9 p7 ((kd.trans' (k6.trans' k7)).trans k9 fun q hq hlt => by simp at hq; omega) (by omega) ((c8.keep k7).keepS k9 (fun q hq => by simp at hq; exact hq ▸ hm9) (by simpa using n2)) ((z8.keep k7).keepS k9 (fun q hq => by simp at hq; exact hq ▸ hm9) (by simpa using n4)) c9
  · have hie : i = ops.length := by omega
    subst hie
    rw [List.drop_length] at he
    have he' : E = (li, ops.length, 0) := he
    rw [he'] at hK
    unfold ref07_Replay_s0
    obtain ⟨v8, hld8, hv8⟩ := ci.ld
    rw [hld8, oi.rd.lenL, List.length_map]
    exact retVX (K := fun v w => K (.tuple #[v, .int .i64 ops.length, .int .i64 0]) w) zi hv8 fun w' kz hz => hK _ w' (ki.trans kz fun q hq hlt => by simp at hq; omega) (hz.less hXY)
/-! ### are ledgers the same? -/
theorem sC_inj {a b : SV} : eqC (sC a) (sC b) = decide (a = b) := by
  obtain ⟨a1, a2, a3, a4⟩ := a
  obtain ⟨b1, b2, b3, b4⟩ := b
  rw [Bool.eq_iff_iff]
  simp [sC]
theorem hC_inj {a b : HV} : eqC (hC a) (hC b) = decide (a = b) := by
  obtain ⟨a1, a2, a3, a4, a5, a6⟩ := a
  obtain ⟨b1, b2, b3, b4, b5, b6⟩ := b
  rw [Bool.eq_iff_iff]
  simp [hC]
theorem Same7_spec {w : World} {v v' : Value} {l l' : LV} (h : LedAt w v l) (h' : LedAt w v' l') (hs : l.st.length < 2 ^ 40) (hh : l.ho.length < 2 ^ 40) (hm : l.mo.length < 2 ^ 40) {K : Value → World → Prop} (hK : ∀ w', Kp [] w w' → K (.bool (decide (l = l'))) w') : callG Try.prog 38 #[v, v'] w K := by
  refine ref07_Same_call ?_
  unfold ref07_Same ref07_Same_s10
  refine boxLed h fun x a b c w1 hx k1 hB _ => ?_
  refine boxLed (h'.keep k1) fun y a' b' c' w2 hy k2 hB' _ => ?_
  have hB2 := hB.keep k2
  have k02 := k1.trans' k2
  have hno : ∀ w', Kp [] w2 w' → ¬ (l = l') → K (.bool false) w' := fun w' k e => by have := hK w' (k02.trans' k); rw [decide_eq_false e] at this; exact this
  simp only [fa_p, Nat.add_zero, Nat.zero_add]
  rw [hB2.l0, hB2.a.lenL, hB'.l0, hB'.a.lenL, List.length_map, List.length_map]
  simp only [bq_neq, bV_b, decide_eq_true_eq, decide_eq_false_iff_not]
  refine ⟨fun e => hno w2 (Kp.refl _ _) (fun h => e (by rw [h])), fun e1 => ?_⟩
  rw [hB2.l1, hB2.b.lenL, hB'.l1, hB'.b.lenL, List.length_map, List.length_map]
  simp only [bq_neq, bV_b, decide_eq_true_eq, decide_eq_false_iff_not]
  refine ⟨fun e => hno w2 (Kp.refl _ _) (fun h => e (by rw [h])), fun e2 => ?_⟩
  rw [hB2.l2, hB2.c.lenL, hB'.l2, hB'.c.lenL, List.length_map, List.length_map]
  simp only [bq_neq, bV_b, decide_eq_true_eq, decide_eq_false_iff_not]
  refine ⟨fun e => hno w2 (Kp.refl _ _) (fun h => e (by rw [h])), fun e3 => ?_⟩
  rw [hB2.l3, hB'.l3]
  simp only [bq_neq, bV_b, decide_eq_true_eq, decide_eq_false_iff_not]
  refine ⟨fun e => hno w2 (Kp.refl _ _) (fun h => e (by rw [h])), fun e4 => ?_⟩
  have e1 : l.st.length = l'.st.length := by omega
  have e2 : l.ho.length = l'.ho.length := by omega
  have e3 : l.mo.length = l'.mo.length := by omega
  have e4 : l.ops = l'.ops := Decidable.not_not.1 e4
  unfold ref07_Same_s9 ref07_Same_L8
  refine loop_inv (fun m xs wi => ∃ i, i ≤ l.st.length ∧ m = l.st.length - i ∧ xs = [.pointer (some ⟨x, 0, none⟩), .pointer (some ⟨y, 0, none⟩), .int .i64 (i : Nat)] ∧ Kp [] w2 wi ∧ ∀ j (h1 : j < l.st.length) (h2 : j < l'.st.length), j < i → l.st[j] = l'.st[j]) ?_ (m := l.st.length) ⟨0, by omega, rfl, rfl, Kp.refl _ _, fun j _ _ h => by omega⟩
  rintro m N xs wi ⟨i, hi, rfl, rfl, ki, hall⟩ hN
  have hiw : IntKind.i64.wrap ((i : Int) + 1) = ((i + 1 : Nat) : Int) := by rw [w64 (by omega) (by omega)]; simp
  have bi := hB2.keep ki
  unfold ref07_Same_L8F ref07_Same_b7
  simp only [fa_p, Nat.add_zero, Nat.zero_add]
  rw [bi.l0, bi.a.lenL, List.length_map]
  simp only [bq_lss, bV_b, decide_eq_true_eq, decide_eq_false_iff_not]
  refine ⟨fun hlt => ?_, fun hge => ?_⟩
  · have hlt : i < l.st.length := by omega
    have kd : Kp [] w2 wi.drew := ki.trans' kp_drew
    have bd := hB2.keep kd
    have bd' := hB'.keep kd
    obtain ⟨p, p1, p2, _⟩ := rd_parts bd.a hlt
    obtain ⟨q, q1, q2, _⟩ := rd_parts bd'.a (show i < l'.st.length by omega)
    rw [bd.l0, p1, p2, bd'.l0, q1, q2]
    rw [bq_aggneq (by kernel_rfl), sC_inj]
    simp only [bV_b, bq_add, hiw]
    refine ⟨fun e => hno _ kd (fun h => ?_), fun e => ?_⟩
    · subst h; simp at e
    · have e : l.st[i] = l'.st[i]'(by omega) := by simpa using e
      refine hN (l.st.length - (i + 1)) _ _ (by omega) ⟨i + 1, by omega, rfl, rfl, kd, fun j h1 h2 hj => ?_⟩
      by_cases hji : j = i
      · subst hji; exact e
      · exact hall j h1 h2 (by omega)
  have est : l.st = l'.st := List.ext_getElem e1 fun j h1 h2 => hall j h1 h2 (by omega)
  unfold ref07_Same_s6 ref07_Same_L5
  refine loop_inv (fun m xs wj => ∃ i, i ≤ l.ho.length ∧ m = l.ho.length - i ∧ xs = [.pointer (some ⟨x, 0, none⟩), .pointer (some ⟨y, 0, none⟩), .int .i64 (i : Nat)] ∧ Kp [] w2 wj ∧ ∀ j (h1 : j < l.ho.length) (h2 : j < l'.ho.length), j < i → l.ho[j] = l'.ho[j]) ?_ (m := l.ho.length) ⟨0, by omega, rfl, rfl, ki, fun j _ _ h => by omega⟩
  clear hN hall hiw bi
  rintro m N xs wj ⟨i, hi, rfl, rfl, kj, hall⟩ hN
  have hiw : IntKind.i64.wrap ((i : Int) + 1) = ((i + 1 : Nat) : Int) := by rw [w64 (by omega) (by omega)]; simp
  have bi := hB2.keep kj
  unfold ref07_Same_L5F ref07_Same_b4
  simp only [fa_p, Nat.add_zero, Nat.zero_add]
  rw [bi.l1, bi.b.lenL, List.length_map]
  simp only [bq_lss, bV_b, decide_eq_true_eq, decide_eq_false_iff_not]
  refine ⟨fun hlt => ?_, fun hge => ?_⟩
  · have hlt : i < l.ho.length := by omega
    have kd : Kp [] w2 wj.drew := kj.trans' kp_drew
    have bd := hB2.keep kd
    have bd' := hB'.keep kd
    obtain ⟨p, p1, p2, _⟩ := rd_parts bd.b hlt
    obtain ⟨q, q1, q2, _⟩ := rd_parts bd'.b (show i < l'.ho.length by omega)
    rw [bd.l1, p1, p2, bd'.l1, q1, q2]
    rw [bq_aggneq (by kernel_rfl), hC_inj]
    simp only [bV_b, bq_add, hiw]
    refine ⟨fun e => hno _ kd (fun h => ?_), fun e => ?_⟩
    · subst h; simp at e
    · have e : l.ho[i] = l'.ho[i]'(by omega) := by simpa using e
      refine hN (l.ho.length - (i + 1)) _ _ (by omega) ⟨i + 1, by omega, rfl, rfl, kd, fun j h1 h2 hj => ?_⟩
      by_cases hji : j = i
      · subst hji; exact e
      · exact hall j h1 h2 (by omega)
  have eho : l.ho = l'.ho := List.ext_getElem e2 fun j h1 h2 => hall j h1 h2 (by omega)
  unfold ref07_Same_s3 ref07_Same_L2
  refine loop_inv (fun m xs wj => ∃ i, i ≤ l.mo.length ∧ m = l.mo.length - i ∧ xs = [.pointer (some ⟨x, 0, none⟩), .pointer (some ⟨y, 0, none⟩), .int .i64 (i : Nat)] ∧ Kp [] w2 wj ∧ ∀ j (h1 : j < l.mo.length) (h2 : j < l'.mo.length), j < i → l.mo[j] = l'.mo[j]) ?_ (m := l.mo.length) ⟨0, by omega, rfl, rfl, kj, fun j _ _ h => by omega⟩
  clear hN hall hiw bi
  rintro m N xs wk ⟨i, hi, rfl, rfl, kk, hall⟩ hN
  have hiw : IntKind.i64.wrap ((i : Int) + 1) = ((i + 1 : Nat) : Int) := by rw [w64 (by omega) (by omega)]; simp
  have bi := hB2.keep kk
  unfold ref07_Same_L2F ref07_Same_b1
  simp only [fa_p, Nat.add_zero, Nat.zero_add]
  rw [bi.l2, bi.c.lenL, List.length_map]
  simp only [bq_lss, bV_b, decide_eq_true_eq, decide_eq_false_iff_not]
  refine ⟨fun hlt => ?_, fun hge => ?_⟩
  · have hlt : i < l.mo.length := by omega
    have kd : Kp [] w2 wk.drew := kk.trans' kp_drew
    have bd := hB2.keep kd
    have bd' := hB'.keep kd
    obtain ⟨p, p1, p2, _⟩ := rd_parts bd.c hlt
    obtain ⟨q, q1, q2, _⟩ := rd_parts bd'.c (show i < l'.mo.length by omega)
    rw [bd.l2, p1, p2, bd'.l2, q1, q2]
    rw [bq_aggneq (by kernel_rfl), hC_inj]
    simp only [bV_b, bq_add, hiw]
    refine ⟨fun e => hno _ kd (fun h => ?_), fun e => ?_⟩
    · subst h; simp at e
    · have e : l.mo[i] = l'.mo[i]'(by omega) := by simpa using e
      refine hN (l.mo.length - (i + 1)) _ _ (by omega) ⟨i + 1, by omega, rfl, rfl, kd, fun j h1 h2 hj => ?_⟩
      by_cases hji : j = i
      · subst hji; exact e
      · exact hall j h1 h2 (by omega)
  have emo : l.mo = l'.mo := List.ext_getElem e3 fun j h1 h2 => hall j h1 h2 (by omega)
  unfold ref07_Same_s0
  have := hK wk (k02.trans' kk)
  have e : l = l' := by
    cases l; cases l'
    simp only [LV.mk.injEq]
    exact ⟨est, eho, emo, e4⟩
  rw [decide_eq_true e] at this
  exact this
end
end Go.Proofs

set_option linter.unusedVariables false
set_option linter.unusedSimpArgs false
namespace Go.Proofs
open Go Go.Q
set_option maxRecDepth 100000
/-! quayside/quaysidelaw07.receive -/
def law07_receive_s0 (R : Value → World → Prop) (x0 x1 x2 : Value) (w : World) : Prop :=
  newG (zc Try.prog 23) 23 w fun t6 w =>
  bld [(0, 1), (1, 1), (2, 1), (3, 1), (4, 1), (5, 1), (6, 1)] (zc Try.prog 23) #[(0, (.int .i64 1)), (1, x0), (2, x1), (4, x2)] fun t10 =>
  stn 7 t6 t10 w fun w =>
  qG Try.prog (do loadVar 23 (← asAddr t6)) w fun r6 =>
  R r6 w
theorem law07_receive_s0_eq (R : Value → World → Prop) : ∀ e w, lift Try.prog 11 (bodyOf Try.f45) (finK Try.prog Try.f45.results.toList R) e w = law07_receive_s0 R (e 0) (e 1) (e 2) w := fun e w => by kernel_rfl
def law07_receive (R : Value → World → Prop) (x0 x1 x2 : Value) (w : World) : Prop := law07_receive_s0 R x0 x1 x2 w
theorem law07_receive_call {R : Value → World → Prop} {x0 x1 x2 : Value} {w : World} (h : law07_receive R x0 x1 x2 w) : callG Try.prog 45 #[x0, x1, x2] w R :=
  calls_lift_eq Try.mixed Try.func45 (args := [x0, x1, x2]) rfl rfl rfl rfl ((law07_receive_s0_eq R) (envOf [x0, x1, x2]) w) (by kernel_rfl) h
/-! quayside/quaysidelaw07.awake -/
def law07_awake_s0 (R : Value → World → Prop) (w : World) : Prop :=
  bld [(0, 1), (1, 1), (2, 1), (3, 1)] (zc Try.prog 60) #[] fun t7 =>
  callG Try.prog 45 #[(.string ⟨#[115]⟩), (.string ⟨#[120]⟩), (.int .i64 5)] w fun t8 w =>
  bld [(0, 1), (1, 1), (2, 1), (3, 1), (4, 1), (5, 1), (6, 1)] (zc Try.prog 23) #[(0, (.int .i64 2)), (1, (.string ⟨#[115]⟩)), (2, (.string ⟨#[120]⟩)), (4, (.int .i64 3))] fun t9 =>
  bld [(0, 1), (1, 1), (2, 1), (3, 1), (4, 1), (5, 1), (6, 1)] (zc Try.prog 23) #[(0, (.int .i64 3)), (5, (.int .i64 1))] fun t10 =>
  bld [(0, 1), (1, 1), (2, 1), (3, 1), (4, 1), (5, 1), (6, 1)] (zc Try.prog 23) #[(0, (.int .i64 6)), (1, (.string ⟨#[115]⟩)), (2, (.string ⟨#[120]⟩)), (3, (.string ⟨#[121]⟩)), (4, (.int .i64 1))] fun t11 =>
  bsl 23 7 4 (zc Try.prog 23) #[(0, t8), (1, t9), (2, t10), (3, t11)] w fun t12 w =>
  callG Try.prog 36 #[t7, t12] w fun t13 w =>
  qG Try.prog (Instr.extract t13 0) w fun t14 =>
  qG Try.prog (Instr.extract t13 1) w fun t15 =>
  qG Try.prog (Instr.extract t13 2) w fun t16 =>
  newG (zc Try.prog 60) 60 w fun t1 w =>
  stn 4 t1 t14 w fun w =>
  ldn 4 t1 w fun t18 =>
  bld [(0, 1), (1, 1), (2, 1), (3, 1), (4, 1), (5, 1), (6, 1)] (zc Try.prog 23) #[(0, (.int .i64 4)), (5, (.int .i64 1))] fun t19 =>
  callG Try.prog 39 #[t18, t19] w fun t20 w =>
  qG Try.prog (Instr.extract t20 0) w fun t21 =>
  qG Try.prog (Instr.extract t20 1) w fun t22 =>
  newG (zc Try.prog 60) 60 w fun t4 w =>
  stn 4 t4 t21 w fun w =>
  qG Try.prog (bq .eql 3 (.tmp 23) (.const (.int .i64 4)) t15 (.int .i64 4)) w fun t24 =>
  bV t24
  (qG Try.prog (bq .eql 26 (.tmp 26) (.const (.int .i64 0)) t16 (.int .i64 0)) w fun t27 =>
  bV t27
  (qG Try.prog (bq .eql 26 (.tmp 30) (.const (.int .i64 71)) t22 (.int .i64 71)) w fun t31 =>
  bV t31
  (ldn 4 t1 w fun t34 =>
  callG Try.prog 43 #[t34, (.string ⟨#[115]⟩), (.string ⟨#[120]⟩)] w fun t35 w =>
  qG Try.prog (bq .eql 3 (.tmp 35) (.const (.int .i64 1)) t35 (.int .i64 1)) w fun t36 =>
  bV t36
  (ldn 4 t1 w fun t39 =>
  callG Try.prog 44 #[t39, (.string ⟨#[115]⟩), (.string ⟨#[121]⟩)] w fun t40 w =>
  fld false 2 1 t40 fun t41 =>
  qG Try.prog (bq .eql 3 (.tmp 41) (.const (.int .i64 1)) t41 (.int .i64 1)) w fun t42 =>
  bV t42
  (fa 2 t1 fun t45 =>
  ld1 t45 w fun t46 =>
  lenL t46 fun t47 =>
  qG Try.prog (bq .eql 3 (.tmp 47) (.const (.int .i64 4)) t47 (.int .i64 4)) w fun t48 =>
  bV t48
  (ldn 4 t1 w fun t51 =>
  callG Try.prog 66 #[t51] w fun t52 w =>
  qG Try.prog (bq .eql 26 (.tmp 52) (.const (.int .i64 0)) t52 (.int .i64 0)) w fun t53 =>
  R t53 w)
  (R (.bool false) w))
  (R (.bool false) w))
  (R (.bool false) w))
  (R (.bool false) w))
  (R (.bool false) w))
  (R (.bool false) w)
theorem law07_awake_s0_eq (R : Value → World → Prop) : ∀ e w, lift Try.prog 55 (bodyOf Try.f35) (finK Try.prog Try.f35.results.toList R) e w = law07_awake_s0 R w := fun e w => by kernel_rfl
def law07_awake (R : Value → World → Prop) (w : World) : Prop := law07_awake_s0 R  w
theorem law07_awake_call {R : Value → World → Prop} {w : World} (h : law07_awake R w) : callG Try.prog 35 #[] w R :=
  calls_lift_eq Try.mixed Try.func35 (args := []) rfl rfl rfl rfl ((law07_awake_s0_eq R) (envOf []) w) (by kernel_rfl) h
/-! quayside/quaysidelaw07.play -/
/-! quayside/quaysidelaw07.total -/
/-! quayside/quaysidelaw07.LedgerReplays -/
def law07_LedgerReplays_s0 (R : Value → World → Prop) (x0 : Value) (w : World) : Prop :=
  lenL x0 fun t10 =>
  qG Try.prog (bq .gtr 3 (.tmp 10) (.const (.int .i64 40)) t10 (.int .i64 40)) w fun t11 =>
  bV t11
  (callG Try.prog 35 #[] w fun t12 w =>
  R t12 w)
  (bld [(0, 1), (1, 1), (2, 1), (3, 1)] (zc Try.prog 60) #[] fun t14 =>
  callG Try.prog 36 #[t14, x0] w fun t16 w =>
  qG Try.prog (Instr.extract t16 0) w fun t17 =>
  qG Try.prog (Instr.extract t16 1) w fun t18 =>
  qG Try.prog (Instr.extract t16 2) w fun t19 =>
  newG (zc Try.prog 60) 60 w fun t3 w =>
  stn 4 t3 t17 w fun w =>
  bld [(0, 1), (1, 1), (2, 1), (3, 1)] (zc Try.prog 60) #[] fun t21 =>
  callG Try.prog 37 #[t21, x0] w fun t23 w =>
  qG Try.prog (Instr.extract t23 0) w fun t24 =>
  qG Try.prog (Instr.extract t23 1) w fun t25 =>
  qG Try.prog (Instr.extract t23 2) w fun t26 =>
  newG (zc Try.prog 60) 60 w fun t6 w =>
  stn 4 t6 t24 w fun w =>
  ldn 4 t3 w fun t27 =>
  ldn 4 t6 w fun t28 =>
  callG Try.prog 38 #[t27, t28] w fun t29 w =>
  bV t29
  (qG Try.prog (bq .eql 3 (.tmp 31) (.tmp 32) t18 t25) w fun t33 =>
  bV t33
  (qG Try.prog (bq .eql 26 (.tmp 36) (.tmp 37) t19 t26) w fun t38 =>
  bV t38
  (callG Try.prog 35 #[] w fun t41 w =>
  R t41 w)
  (R (.bool false) w))
  (R (.bool false) w))
  (R (.bool false) w))
theorem law07_LedgerReplays_s0_eq (R : Value → World → Prop) : ∀ e w, lift Try.prog 43 (bodyOf Try.f8) (finK Try.prog Try.f8.results.toList R) e w = law07_LedgerReplays_s0 R (e 0) w := fun e w => by kernel_rfl
def law07_LedgerReplays (R : Value → World → Prop) (x0 : Value) (w : World) : Prop := law07_LedgerReplays_s0 R x0 w
theorem law07_LedgerReplays_call {R : Value → World → Prop} {x0 : Value} {w : World} (h : law07_LedgerReplays R x0 w) : callG Try.prog 8 #[x0] w R :=
  calls_lift_eq Try.mixed Try.func8 (args := [x0]) rfl rfl rfl rfl ((law07_LedgerReplays_s0_eq R) (envOf [x0]) w) (by kernel_rfl) h
/-! quayside/quaysidelaw07.LedgerKeeps -/
/-! quayside/quaysidelaw07.LedgerMoves -/
/-! quayside/quaysidelaw07.LedgerHolds -/
/-! quayside/quaysidelaw07.LedgerEdges -/
end Go.Proofs

/- Layer 7: the law's awake; LedgerReplays. -/
set_option maxRecDepth 100000
set_option linter.unusedVariables false
set_option linter.unusedSimpArgs false
namespace Go.Proofs
open Go Go.Q
theorem aggOp : aggO Try.prog 23 = some true := by kernel_rfl
theorem szOp : szO Try.prog 23 = some 7 := by kernel_rfl
theorem receive_spec {w : World} (sku loc : List UInt8) (n : Int) {K : Value → World → Prop} (hK : ∀ w', Kp [] w w' → K (opA ⟨1, sku, loc, [], n, 0, 0⟩) w') : callG Try.prog 45 #[.string (str sku), .string (str loc), .int .i64 n] w K := by
  refine law07_receive_call ?_
  unfold law07_receive law07_receive_s0
  simp [-getElem?_pos, -Array.all_eq_true, -Array.getElem?_eq_getElem, -List.length_flatten, List.getElem?_cons_zero, List.getElem?_cons_succ, op_zc, str_nil, bld_done, bld_if, offAt, putAt, -ldn_p, -stn_p, -newG_k]
  refine boxG (c := (opC ⟨1, sku, loc, [], n, 0, 0⟩).toArray) (K := fun p w => qG Try.prog (do loadVar 23 (← asAddr p)) w fun r6 => K r6 w) rfl rfl (by simp [opC, one]) fun p w1 hp hh k1 => ?_
  rw [loadVar_of aggOp szOp hh rfl]
  exact hK w1 k1
def awOps : List OpV := [⟨1, [115], [120], [], 5, 0, 0⟩, ⟨2, [115], [120], [], 3, 0, 0⟩, ⟨3, [], [], [], 0, 1, 0⟩, ⟨6, [115], [120], [121], 1, 0, 0⟩]
def awL : LV := (replayL lZ awOps 0).1
theorem awE : replayL lZ awOps 0 = (awL, 4, 0) := by decide
theorem replay_may : ∀ (ops : List OpV) (l : LV) (k : Nat), May l → (∀ o ∈ ops, o.Wf) → May (replayL l ops k).1 := by
  intro ops
  induction ops with
  | nil => intro l k h _; exact h
  | cons o r ih =>
    intro l k h hw
    unfold replayL
    split
    · exact ih _ _ (stepL_may h (hw o (by simp))) fun x hx => hw x (by simp [hx])
    · exact h
theorem awWf : ∀ o ∈ awOps, o.Wf := by
  intro o ho
  simp only [awOps, List.mem_cons, List.not_mem_nil, or_false] at ho
  rcases ho with rfl | rfl | rfl | rfl <;> exact ⟨by decide, by decide, by decide, by decide, by decide, by decide, by decide, by decide⟩
theorem awMay : May awL := replay_may awOps lZ 0 may_z awWf
theorem awake7 {w : World} {K : Value → World → Prop} (hK : ∀ w', Kp [] w w' → K (.bool true) w') : callG Try.prog 35 #[] w K := by
  refine law07_awake_call ?_
  unfold law07_awake law07_awake_s0
  rw [zLed_bld]
  refine receive_spec [115] [120] 5 fun w1 k1 => ?_
  have hb : ∀ (ps : List (Nat × Value)) (o : OpV), True := fun _ _ => trivial
  simp [-getElem?_pos, -Array.all_eq_true, -Array.getElem?_eq_getElem, -List.length_flatten, List.getElem?_cons_zero, List.getElem?_cons_succ, op_zc, str_nil, bld_done, bld_if, offAt, putAt, -ldn_p, -stn_p, -newG_k, -ld1_p, -st1_p]
  rw [← op_zc]
  refine bsl_rows (n := 7) (len := 4) (xs := awOps.map opA) (rows := awOps.map opC) (by omega) rfl rfl (by simp [awOps, opC]) (by omega) fun v2 w2 f2 => ?_
  have ho : OpsAt w2 v2 awOps := ⟨f2.rd, awWf⟩
  refine Replay_X (X := []) may_z (lz_x _) (by simp) ho (by decide) fun v3 w3 k3 hv3 => ?_
  rw [awE] at hv3
  rw [awE]
  simp only [ex30, ex31, ex32]
  have k03 := (k1.trans' f2.kp).trans' k3
  refine newVX hv3 fun p1 w4 hp1 k4 c1 => ?_
  obtain ⟨v4, hld4, hv4⟩ := c1.ld
  rw [hld4]
  have hX : ∀ q ∈ [p1], q < w4.heap.size := fun q hq => by
    simp at hq; rw [hq]; exact c1.lt
  refine Apply_X (X := [p1]) awMay hv4 hX ⟨4, [], [], [], 0, 1, 0⟩ (by unfold rngI; decide) fun v5 w5 k5 hv5 => ?_
  have e5 : applyL awL ⟨4, [], [], [], 0, 1, 0⟩ = (lZ, 71) := by decide
  rw [e5] at hv5
  rw [e5]
  simp only [ex0, ex1]
  refine newVX hv5 fun p4 w6 hp4 k6 c4 => ?_
  have d1 := ((c1.keep k5).more hp4).keep k6
  have k46 := k5.trans' k6
  simp only [bq_eql, bV_b, decide_eq_true_eq, decide_eq_false_iff_not]
  refine ⟨fun _ => ?_, fun h => absurd (by decide) h⟩
  refine ⟨fun _ => ?_, fun h => absurd (by decide) h⟩
  refine ⟨fun _ => ?_, fun h => absurd (by decide) h⟩
  obtain ⟨v6, hld6, hv6⟩ := d1.ld
  rw [hld6]
  refine Free_spec7 awMay hv6.at [115] [120] fun w7 k7 => ?_
  have e7 : freeL awL [115] [120] = 1 := by decide
  rw [e7]
  simp only [bq_eql, bV_b, decide_eq_true_eq, decide_eq_false_iff_not]
  refine ⟨fun _ => ?_, fun h => absurd (by decide) h⟩
  have d7 := d1.keep k7
  obtain ⟨v7, hld7, hv7⟩ := d7.ld
  rw [hld7]
  refine Find_spec7 hv7.at (by decide) [115] [121] fun w8 k8 => ?_
  have e8 : findS awL.st [115] [121] = ⟨[115], [121], 1, 0⟩ := by decide
  rw [e8]
  unfold sA
  simp [-getElem?_pos, -Array.all_eq_true, -Array.getElem?_eq_getElem, -List.length_flatten, List.getElem?_cons_zero, List.getElem?_cons_succ, -ldn_p, -stn_p, -newG_k, -ld1_p, -st1_p]
  have d8 := d7.keep k8
  obtain ⟨a, b, c, hB⟩ := d8.box
  rw [hB.l2, hB.c.lenL, List.length_map]
  have e9 : awL.mo.length = 4 := by decide
  rw [e9]
  simp only [bq_eql, bV_b, decide_eq_true_eq, decide_eq_false_iff_not]
  refine ⟨fun _ => ?_, fun h => absurd (by decide) h⟩
  rw [hB.ld]
  refine Check_spec7 awMay hB.at fun w9 k9 => ?_
  simp only [bq_eql]
  have := hK w9 (((((k03.trans' k4).trans' k46).trans' k7).trans' k8).trans' k9)
  exact this
theorem ledgerReplays_spec {w : World} {v : Value} {ops : List OpV} (ho : OpsAt w v ops) {K : Value → World → Prop} (hK : ∀ w', Kp [] w w' → K (.bool true) w') : callG Try.prog 8 #[v] w K := by
  refine law07_LedgerReplays_call ?_
  unfold law07_LedgerReplays law07_LedgerReplays_s0
  rw [ho.rd.lenL, List.length_map]
  simp only [bq_gtr, bV_b, decide_eq_true_eq, decide_eq_false_iff_not]
  refine ⟨fun _ => awake7 hK, fun hlt => ?_⟩
  rw [zLed_bld]
  refine Replay_X (X := []) may_z (lz_x _) (by simp) ho (by omega) fun v1 w1 k1 hv1 => ?_
  simp only [ex30, ex31, ex32]
  refine newVX hv1 fun p1 w2 hp1 k2 c1 => ?_
  rw [zLed_bld]
  have k02 := k1.trans' k2
  refine refReplay_X (X := [p1]) may_z (lz_x _) (fun q hq => by simp at hq; rw [hq]; exact c1.lt) (ho.keep k02) (by omega) fun v3 w3 k3 hv3 => ?_
  simp only [ex30, ex31, ex32]
  refine newVX hv3 fun p4 w4 hp4 k4 c4 => ?_
  have d1 := ((c1.keep k3).more hp4).keep k4
  obtain ⟨va, hla, hva⟩ := d1.ld
  obtain ⟨vb, hlb, hvb⟩ := c4.ld
  rw [hla, hlb]
  have hmay := replay_may ops lZ 0 may_z ho.wf
  have hfew := hmay.few
  simp only [fullL, decide_eq_false_iff_not, not_or] at hfew
  refine Same7_spec hva.at hvb.at (by omega) (by omega) (by omega) fun w5 k5 => ?_
  simp only [bV_b, bq_eql, decide_true, true_implies, Bool.true_eq_false, false_implies, and_true]
  exact awake7 fun w6 k6 => hK w6 ((((k02.trans' k3).trans' k4).trans' k5).trans' k6)
end Go.Proofs

/- Layer 7: operations that were given. -/
set_option linter.unusedVariables false
set_option linter.unusedSimpArgs false
namespace Go.Proofs
open Go Go.Q
theorem ops_of {rows : List (List Value)} (h : ∀ r ∈ rows, ∃ o : OpV, r = opC o ∧ o.Wf) : ∃ l : List OpV, rows = l.map opC ∧ ∀ o ∈ l, o.Wf := by
  induction rows with
  | nil => exact ⟨[], rfl, by simp⟩
  | cons r rows ih =>
    obtain ⟨l, h1, h2⟩ := ih fun x hx => h x (by simp [hx])
    obtain ⟨s, h3, h4⟩ := h r (by simp)
    exact ⟨s :: l, by rw [h1, h3]; rfl, fun x hx => by
      rcases List.mem_cons.1 hx with rfl | hx
      · exact h4
      · exact h2 x hx⟩
theorem ops_taken {w : World} {a : Option Addr} {l c : Nat} (h : Taken w 55 (.slice a l c)) : ∃ ops : List OpV, OpsAt w (.slice a l c) ops := by
  obtain ⟨H, enc, fuel, x, h⟩ := h
  obtain ⟨v, rows, SK, hv, harg, hlt, hlen, hr⟩ := arg_slice Try.underlying55 (n := 7) (by kernel_rfl) (by omega) h
  obtain ⟨ops, hl, hs⟩ := ops_of (rows := rows) fun r hm => by
    obtain ⟨f, y, hy⟩ := hr r hm
    exact op_in hy
  subst hl
  injection hv with e _
  subst e
  exact ⟨ops, ⟨SK, harg⟩, hs⟩
end Go.Proofs

