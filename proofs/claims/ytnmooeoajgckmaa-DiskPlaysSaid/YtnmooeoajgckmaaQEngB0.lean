/- Part of the proof (text QEngB0): an engine, rules or contracts of the functions; it states nothing of the claim by itself. -/
import Derived.Test.YtnmooeoajgckmaaQEngA
import Derived.Laws.Sem
import Derived.Laws.CopyRow
import Derived.Laws.Append
import Derived.ChangeKeysEq
import Derived.Laws.Entries
/- The engine, part B0: each operation's form is sound over the model's own. -/
set_option linter.unusedVariables false
set_option linter.unusedSimpArgs false
namespace Go.Q
variable {P : Program}

theorem addr_eta (a : Addr) (h : a.spot = none) : a = ⟨a.block, a.off, none⟩ := by cases a; simp_all
theorem add_none {a : Addr} (h : a.spot = none) (i : Nat) : a.add i = ⟨a.block, a.off + i, none⟩ := by
  unfold Addr.add
  split
  · rename_i hi; subst hi; exact addr_eta a h
  · cases a; simp_all
theorem cell_of {w : World} {b i : Nat} {c : Array Value} {T : TypeId} {fr : Nat × Nat} (h : w.heap[b]? = some (.cells c T fr)) : w.cell? ⟨b, i, none⟩ = c[i]? := by
  simp [World.cell?, h]
theorem one_eq (v : Value) : one v = v.oneCell' := by cases v <;> rfl

theorem szO_some {t : TypeId} {n : Nat} (h : szO P t = some n) (w : World) : (sizeOf t).run P w = .ok n w := by
  unfold szO at h
  cases hi : P.info? t with
  | none => rw [hi] at h; cases h
  | some i =>
    rw [hi] at h
    simp only [Option.map_some, Option.some.injEq] at h
    simp [sizeOf, run_typeInfo w hi, h, pure, Sem.run]
theorem aggO_run {t : TypeId} {b : Bool} (h : aggO P t = some b) (w : World) : (isAgg t).run P w = .ok b w := by
  unfold aggO at h
  cases hu : P.underlying t with
  | none => rw [hu] at h; cases h
  | some d =>
    rw [hu] at h
    simp only [Option.map_some, Option.some.injEq] at h
    subst h
    simp only [isAgg, Sem.run_bind, run_underlying hu, Result.andThen_ok]
    cases d <;> rfl
theorem hasZ_run {t : TypeId} {n : Nat} (h : hasZ P t n = true) (w : World) : ∃ z, (zeroValue t).run P w = .ok z w ∧ z.cells = zc P t ∧ (zc P t).size = n := by
  unfold hasZ at h
  cases hi : P.info? t with
  | none => rw [hi] at h; cases h
  | some i =>
    rw [hi] at h
    simp only [Option.bind_some] at h
    cases hz : i.zero with
    | none => rw [hz] at h; cases h
    | some z =>
      rw [hz] at h
      refine ⟨z, ?_, ?_, ?_⟩
      · simp [zeroValue, run_typeInfo w hi, hz, pure]
      · simp [zc, hi, hz]
      · simp only [zc, hi, hz, Option.bind_some, Option.getD_some]; exact Nat.eq_of_beq_eq_true h

theorem rd1_run {w : World} {a : Addr} {k : Value → Prop} (h : rd1 w a k) : ∃ v, (load a).run P w = .ok v w ∧ k v := by
  unfold rd1 at h
  split at h
  · rename_i c T fr hh
    obtain ⟨hs, h⟩ := h
    split at h
    · rename_i v hv
      refine ⟨v, ?_, h⟩
      have : w.cell? a = some v := by rw [addr_eta a hs, cell_of hh, hv]
      simp [load, Sem.run, this]
    · exact h.elim
  · exact h.elim

theorem rdN_run {w : World} {a : Addr} {n : Nat} {k : Array Value → Prop} (h : rdN w a n k) : ∃ cs, (∀ w' : World, w'.heap = w.heap → (loadCells a n).run P w' = .ok cs w') ∧ k cs ∧ cs.size = n := by
  unfold rdN at h
  split at h
  · rename_i c T fr hh
    obtain ⟨⟨hs, hn⟩, h⟩ := h
    refine ⟨_, fun w' hw' => ?_, h, by simp; omega⟩
    rw [← hw'] at hh
    have := run_loadCells_list (P := P) (w := w') a (c.extract a.off (a.off + n)).toList (fun j v hj => by
      rw [add_none hs, cell_of hh]
      rw [Array.getElem?_toList] at hj
      rw [Array.getElem?_extract] at hj
      split at hj
      · exact hj
      · cases hj)
    have hl : (c.extract a.off (a.off + n)).toList.length = n := by simp; omega
    rw [hl, Array.toArray_toList] at this
    exact this
  · exact h.elim

theorem frozen_of {w : World} {b i : Nat} {c : Array Value} {T : TypeId} {fr : Nat × Nat} (h : w.heap[b]? = some (.cells c T fr)) (hf : okFr fr i 1) : w.frozen? ⟨b, i, none⟩ = false := by
  obtain ⟨lo, hi⟩ := fr
  simp only [World.frozen?, h, Bool.and_eq_false_iff, decide_eq_false_iff_not]
  rcases hf with h | h | h <;> simp only at h <;> omega

theorem setCell_eq {w : World} {b i : Nat} {c : Array Value} {T : TypeId} {fr : Nat × Nat} (h : w.heap[b]? = some (.cells c T fr)) (v : Value) :
    w.setCell ⟨b, i, none⟩ v = setBlk w b (.cells (c.setIfInBounds i v) T fr) := by
  unfold World.setCell setBlk
  congr 1
  apply Array.ext_getElem?
  intro j
  obtain ⟨hb, h2⟩ := Array.getElem?_eq_some_iff.1 h
  rw [Array.getElem?_modify, Array.getElem?_setIfInBounds]
  by_cases hj : b = j
  · subst hj; simp [h2, hb]
  · simp [hj]

theorem wr1_run {w : World} {a : Addr} {v : Value} {k : World → Prop} (ho : one v = true) (h : wr1 w a v k) : ∃ w', (store a v).run P w = .ok () w' ∧ k w' := by
  unfold wr1 at h
  split at h
  · rename_i c T fr hh
    obtain ⟨⟨hs, hn, hf⟩, h⟩ := h
    refine ⟨_, ?_, h⟩
    rw [addr_eta a hs, run_store P w _ v _ (by rw [← one_eq]; exact ho), cell_of hh]
    simp [hn, frozen_of hh hf, setCell_eq hh]
  · exact h.elim

theorem setBlk_heap {w : World} {b : Nat} {o o' : Obj} (h : w.heap[b]? = some o') : (setBlk w b o).heap[b]? = some o := by
  have hb : b < w.heap.size := (Array.getElem?_eq_some_iff.1 h).1
  simp [setBlk, hb]
theorem setBlk_setBlk (w : World) (b : Nat) (o o' : Obj) : setBlk (setBlk w b o) b o' = setBlk w b o' := by
  unfold setBlk
  simp only [World.mk.injEq, and_true]
  apply Array.ext_getElem?
  intro j
  simp only [Array.getElem?_setIfInBounds]
  by_cases hj : b = j
  · subst hj; simp
  · simp [hj]
theorem setBlk_self {w : World} {b : Nat} {o : Obj} (h : w.heap[b]? = some o) : setBlk w b o = w := by
  unfold setBlk
  have : w.heap.setIfInBounds b o = w.heap := by
    apply Array.ext_getElem?
    intro j
    rw [Array.getElem?_setIfInBounds]
    by_cases hj : b = j
    · subst hj
      obtain ⟨hb, h2⟩ := Array.getElem?_eq_some_iff.1 h
      simp [hb, h2]
    · simp [hj]
  rw [this]

theorem run_storeCells_gen (g o : Nat) (t : TypeId) (fr : Nat × Nat) : ∀ (vs : List Value) (i : Nat) (cur : Array Value) (w : World), w.heap[g]? = some (.cells cur t fr) → o + i + vs.length ≤ cur.size →
    okFr fr (o + i) vs.length → (∀ v ∈ vs, one v = true) →
    (storeCells ⟨g, o, none⟩ vs i).run P w = .ok () (setBlk w g (.cells (splice cur (o + i) vs.toArray) t fr))
  | [], i, cur, w, hg, _, _, _ => by
    simp only [storeCells]
    have : splice cur (o + i) #[] = cur := by simp [splice]
    rw [show (([] : List Value).toArray) = #[] from rfl, this, setBlk_self hg]
    rfl
  | v :: rest, i, cur, w, hg, hl, hf, h1 => by
    have hi : o + i < cur.size := by simp at hl; omega
    have hadd : (⟨g, o, none⟩ : Addr).add i = ⟨g, o + i, none⟩ := add_none rfl i
    have hf1 : okFr fr (o + i) 1 := by
      rcases hf with h | h | h
      · exact .inl h
      · exact .inr (.inl (by simp at h; omega))
      · exact .inr (.inr h)
    have hf2 : okFr fr (o + (i + 1)) rest.length := by
      rcases hf with h | h | h
      · exact .inl (by omega)
      · exact .inr (.inl (by simp at h; omega))
      · exact .inr (.inr h)
    have hst : (store ((⟨g, o, none⟩ : Addr).add i) v).run P w = .ok () (setBlk w g (.cells (cur.setIfInBounds (o + i) v) t fr)) := by
      rw [hadd, run_store P w _ v _ (by rw [← one_eq]; exact h1 v (by simp)), cell_of hg]
      simp [hi, frozen_of hg hf1, setCell_eq hg]
    have ih := run_storeCells_gen g o t fr rest (i + 1) (cur.setIfInBounds (o + i) v) _ (setBlk_heap (o := .cells (cur.setIfInBounds (o + i) v) t fr) hg) (by simp at hl ⊢; omega) hf2 (fun x hx => h1 x (by simp [hx]))
    simp only [storeCells, Sem.run_bind, hst, Result.andThen_ok, ih, setBlk_setBlk]
    congr 3
    have e := list_seg_step cur.toList (o + i) v rest (by simp at hl ⊢; omega)
    unfold splice
    simpa [Array.toList_setIfInBounds, Nat.add_assoc] using e

theorem wrN_run {w : World} {a : Addr} {vs : Array Value} {k : World → Prop} (h : wrN w a vs k) : ∃ w', (storeCells a vs.toList).run P w = .ok () w' ∧ k w' := by
  unfold wrN at h
  split at h
  · rename_i c T fr hh
    obtain ⟨⟨hs, hn, hf, ho⟩, h⟩ := h
    refine ⟨_, ?_, h⟩
    rw [addr_eta a hs]
    have := run_storeCells_gen (P := P) a.block a.off T fr vs.toList 0 c w hh (by simpa using hn) (by simpa using hf) (fun v hv => by
      rw [Array.all_eq_true_iff_forall_mem] at ho
      exact ho v (Array.mem_toList_iff.1 hv))
    simpa using this
  · exact h.elim

theorem ld1_q {t : TypeId} {x : Value} {w : World} {k : Value → Prop} (ht : aggO P t = some false) (h : ld1 x w k) : qG P (Instr.loadAt t x) w k := by
  unfold ld1 at h
  split at h
  · rename_i a
    obtain ⟨v, hr, hk⟩ := rd1_run (P := P) h
    refine ⟨v, ?_, hk⟩
    show (loadVar t a).run P w = _
    unfold loadVar
    rw [Sem.run_bind, aggO_run ht]
    exact hr
  · exact h.elim
theorem ldn_q {t : TypeId} {n : Nat} {x : Value} {w : World} {k : Value → Prop} (ht : aggO P t = some true) (hn : szO P t = some n) (h : ldn n x w k) : qG P (Instr.loadAt t x) w k := by
  unfold ldn at h
  split at h
  · rename_i a
    obtain ⟨cs, hr, hk, _⟩ := rdN_run (P := P) h
    refine ⟨_, ?_, hk⟩
    simp [Instr.loadAt, Instr.sureAddr, loadVar, aggO_run ht, szO_some hn, hr w rfl, pure, Sem.run]
  · exact h.elim
theorem cells_one {v : Value} (h : one v = true) : v.cells = #[v] := by cases v <;> first | rfl | cases h
theorem st1_u {t : TypeId} {x v : Value} {w : World} {k : World → Prop} (hn : szO P t = some 1) (h : st1 x v w k) : uG P (Instr.storeAt t x v) w k := by
  unfold st1 at h
  split at h
  · rename_i a
    obtain ⟨ho, h⟩ := h
    obtain ⟨w', hr, hk⟩ := wr1_run (P := P) ho h
    refine ⟨w', ?_, hk⟩
    have h0 : a.add 0 = a := by simp [Addr.add]
    simp [Instr.storeAt, Instr.sureAddr, storeVar, cells_one ho, szO_some hn, storeCells, h0, hr, pure, Sem.run]
  · exact h.elim
theorem stn_u {t : TypeId} {n : Nat} {x v : Value} {w : World} {k : World → Prop} (hn : szO P t = some n) (h : stn n x v w k) : uG P (Instr.storeAt t x v) w k := by
  unfold stn at h
  split at h
  · rename_i a cs
    obtain ⟨hs, h⟩ := h
    obtain ⟨w', hr, hk⟩ := wrN_run (P := P) h
    refine ⟨w', ?_, hk⟩
    simp [Instr.storeAt, Instr.sureAddr, storeVar, Value.cells, szO_some hn, hs, hr, pure, Sem.run]
  · exact h.elim
theorem fa_q {s : TypeId} {fs : Array Field} {f : Nat} {fd : Field} {n : Nat} {x : Value} {w : World} {k : Value → Prop} (hu : P.underlying s = some (.struct fs)) (hf : fs[f]? = some fd)
    (hn : szO P fd.type = some (n + 1)) (h : fa fd.offset x k) : qG P (Instr.fieldAt s x f) w k := by
  unfold fa at h
  split at h
  · rename_i a
    refine ⟨_, ?_, h⟩
    simp [Instr.fieldAt, run_underlying hu, hf, Instr.sureAddr, fieldPlace, szO_some hn, pure, Sem.run]
  · exact h.elim
theorem ia_q {t e : TypeId} {n : Nat} {x i : Value} {w : World} {k : Value → Prop} (hu : P.underlying t = some (.slice e)) (hn : szO P e = some n) (h : ia n x i k) : qG P (Instr.indexAt t x i) w k := by
  unfold ia at h
  split at h
  · rename_i a len cap kd j
    obtain ⟨hj, h⟩ := h
    refine ⟨_, ?_, h⟩
    simp [Instr.indexAt, asIntOf, run_underlying hu, hj, szO_some hn, pure, Sem.run]
  · exact h.elim
theorem iaA_q {t e : TypeId} {len n : Nat} {x i : Value} {w : World} {k : Value → Prop} (hu : P.underlying t = some (.array len e)) (hn : szO P e = some n) (h : iaA len n x i k) : qG P (Instr.indexAt t x i) w k := by
  unfold iaA at h
  split at h
  · rename_i a kd j
    obtain ⟨hj, h⟩ := h
    refine ⟨_, ?_, h⟩
    simp [Instr.indexAt, asIntOf, run_underlying hu, Instr.sureAddr, hj, szO_some hn, pure, Sem.run]
  · exact h.elim
theorem ixS_q {t : TypeId} {x i : Value} {w : World} {k : Value → Prop} (hu : P.underlying t = some .string) (h : ixS x i k) : qG P (Instr.index t x i) w k := by
  unfold ixS at h
  split at h
  · rename_i s kd j
    obtain ⟨hj, h⟩ := h
    split at h
    · rename_i b hb
      refine ⟨_, ?_, h⟩
      simp [Instr.index, asIntOf, run_underlying hu, hj, hb, pure, Sem.run]
    · exact h.elim
  · exact h.elim
theorem part_run {t : TypeId} {n : Nat} {agg : Bool} {off : Nat} {cs : Array Value} {w : World} {k : Value → Prop} (ha : aggO P t = some agg) (hn : szO P t = some n) (h : partG agg off n cs k) : ∃ v, (part t cs off).run P w = .ok v w ∧ k v := by
  unfold partG at h
  split at h
  · exact ⟨_, by simp [part, aggO_run ha, szO_some hn, pure, Sem.run], h⟩
  · split at h
    · rename_i v hv
      exact ⟨v, by simp [part, aggO_run ha, hv, pure, Sem.run], h⟩
    · exact h.elim
theorem ixA_q {t e : TypeId} {len n : Nat} {agg : Bool} {x i : Value} {w : World} {k : Value → Prop} (hu : P.underlying t = some (.array len e)) (hn : szO P e = some n) (ha : aggO P e = some agg) (h : ixA len n agg x i k) :
    qG P (Instr.index t x i) w k := by
  unfold ixA at h
  split at h
  · rename_i cs kd j
    obtain ⟨hj, h⟩ := h
    obtain ⟨v, hr, hk⟩ := part_run (w := w) ha hn h
    refine ⟨v, ?_, hk⟩
    simp [Instr.index, asIntOf, run_underlying hu, hj, szO_some hn, hr, pure, Sem.run]
  · exact h.elim
theorem fld_q {t : TypeId} {fs : Array Field} {f : Nat} {fd : Field} {n : Nat} {agg : Bool} {x : Value} {w : World} {k : Value → Prop} (hu : P.underlying t = some (.struct fs)) (hf : fs[f]? = some fd)
    (hn : szO P fd.type = some n) (ha : aggO P fd.type = some agg) (h : fld agg fd.offset n x k) : qG P (Instr.field t x f) w k := by
  unfold fld at h
  split at h
  · rename_i cs
    obtain ⟨v, hr, hk⟩ := part_run (w := w) ha hn h
    refine ⟨v, ?_, hk⟩
    simp [Instr.field, run_underlying hu, hf, asAgg, hr, pure, Sem.run]
  · exact h.elim
theorem bnd_run {x : Option Value} {d y : Nat} {code : BoundsCode} {w : World} {k : Nat → Prop} (h : bnd x d y k) : ∃ n, (match x with | some v => Instr.sliceBound v y code | none => pure d : Sem Nat).run P w = .ok n w ∧ k n := by
  unfold bnd at h
  split at h
  · exact ⟨d, rfl, h⟩
  · rename_i kd i
    obtain ⟨hi, h⟩ := h
    exact ⟨_, by simp [Instr.sliceBound, asIntOf, hi, pure, Sem.run], h⟩
  · exact h.elim
theorem sliceBounds_run {isS : Bool} {len cap : Nat} {lo hi : Option Value} {w : World} {k : Nat → Nat → Prop} (h : bnd hi len cap fun h => bnd lo 0 h fun l => k l h) :
    ∃ l h, (Instr.sliceBounds isS len cap lo hi none).run P w = .ok (l, h, cap) w ∧ k l h := by
  obtain ⟨h', hr, h⟩ := bnd_run (P := P) (w := w) (code := if isS then .sliceAcap else .sliceAlen) h
  obtain ⟨l, hr2, hk⟩ := bnd_run (P := P) (w := w) (code := .sliceB) h
  refine ⟨l, h', ?_, hk⟩
  cases hi <;> cases lo <;> simp only at hr hr2 <;> simp [Instr.sliceBounds, hr, hr2, pure, Sem.run] <;> simp_all [pure]
theorem slS_q {t : TypeId} {x : Value} {lo hi : Option Value} {w : World} {k : Value → Prop} (hu : P.underlying t = some .string) (h : slS x lo hi k) : qG P (Instr.sliceAt t x lo hi none) w k := by
  unfold slS at h
  split at h
  · rename_i s
    obtain ⟨l, h', hr, hk⟩ := sliceBounds_run (P := P) (w := w) (isS := false) (k := fun l h => k (.string (s.extract l h))) h
    refine ⟨_, ?_, hk⟩
    simp [Instr.sliceAt, Instr.slice, run_underlying hu, hr, pure, Sem.run]
  · exact h.elim
theorem slL_q {t e : TypeId} {n : Nat} {x : Value} {lo hi : Option Value} {w : World} {k : Value → Prop} (hu : P.underlying t = some (.slice e)) (hn : szO P e = some n) (h : slL n x lo hi k) : qG P (Instr.sliceAt t x lo hi none) w k := by
  unfold slL at h
  split at h
  · rename_i a len cap
    obtain ⟨l, h', hr, hk⟩ := sliceBounds_run (P := P) (w := w) (isS := true) (k := fun l h => k (.slice (if cap = l then a else a.map (·.add (l * n))) (h - l) (cap - l))) h
    refine ⟨_, ?_, hk⟩
    simp [Instr.sliceAt, Instr.slice, run_underlying hu, hr, szO_some hn, pure, Sem.run]
  · exact h.elim
theorem slA_q {t e : TypeId} {len n : Nat} {x : Value} {lo hi : Option Value} {w : World} {k : Value → Prop} (hu : P.underlying t = some (.array len e)) (hn : szO P e = some n) (h : slA len n x lo hi k) : qG P (Instr.sliceAt t x lo hi none) w k := by
  unfold slA at h
  split at h
  · rename_i a
    obtain ⟨l, h', hr, hk⟩ := sliceBounds_run (P := P) (w := w) (isS := false) (k := fun l h => k (.slice (some (if len = l then a else a.add (l * n))) (h - l) (len - l))) h
    refine ⟨_, ?_, hk⟩
    simp [Instr.sliceAt, run_underlying hu, Instr.sureAddr, hr, szO_some hn, pure, Sem.run]
  · exact h.elim
end Go.Q
