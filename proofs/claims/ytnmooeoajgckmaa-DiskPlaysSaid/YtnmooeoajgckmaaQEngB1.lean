/- Part of the proof (text QEngB1): an engine, rules or contracts of the functions; it states nothing of the claim by itself. -/
import Derived.Test.YtnmooeoajgckmaaQEngB0
import Derived.Lib.ConvBytes
/- The engine, part B1: each operation's form is sound: what makes memory. -/
set_option linter.unusedVariables false
set_option linter.unusedSimpArgs false
namespace Go.Q
variable {P : Program}

theorem placesOf_ok {w : World} : ∀ {fs : List Field} {l : List (Nat × Nat)}, placesOf P fs = some l → (fs.mapM fun f => do pure (f.offset, ← sizeOf f.type) : Sem (List (Nat × Nat))).run P w = .ok l w := by
  intro fs
  induction fs with
  | nil => intro l h; simp only [placesOf, Option.some.injEq] at h; subst h; rfl
  | cons f r ih =>
    intro l h
    unfold placesOf at h
    split at h
    · rename_i n l' hn hl
      simp only [Option.some.injEq] at h; subst h
      rw [List.mapM_cons]
      simp only [Sem.run_bind, szO_some hn, Result.andThen_ok]
      rw [show (pure (f.offset, n) : Sem (Nat × Nat)).run P w = .ok (f.offset, n) w from rfl]
      simp only [Result.andThen_ok, ih hl]
      rfl
    · cases h
theorem bld_q {t : TypeId} {fs : Array Field} {l : List (Nat × Nat)} {n : Nat} {ps : Array (Nat × Value)} {w : World} {k : Value → Prop} (hu : P.underlying t = some (.struct fs)) (hl : placesOf P fs.toList = some l)
    (hz : hasZ P t n = true) (h : bld l (zc P t) ps k) : qG P (Instr.build t ps) w k := by
  unfold bld at h
  split at h
  · rename_i cs hcs
    refine ⟨_, ?_, h⟩
    obtain ⟨z, hr, hzc, _⟩ := hasZ_run hz w
    have hm : (fs.mapM fun f => do pure (f.offset, ← sizeOf f.type) : Sem (Array (Nat × Nat))).run P w = .ok l.toArray w := by
      rw [Array.mapM_eq_mapM_toList]
      simp only [Sem.run_map, placesOf_ok hl, Result.andThen_ok]
    have hf : Instr.fill (l.toArray[·]?) (zc P t) ps.toList = some cs := by
      rw [← hcs]; congr 1; funext i; simp
    simp only [Instr.build, Sem.run_bind, hr, Result.andThen_ok, hzc, run_underlying hu, hm, hf]
    rfl
  · exact h.elim
theorem newVar_run (T : TypeId) (v : Value) (w : World) : (newVar T v).run P w = .ok ⟨w.heap.size, 0, none⟩ (w.alloc (.cells v.cells T)) := by
  rfl
theorem new_e {t : TypeId} {n : Nat} {w : World} {k : Value → World → Prop} (hz : hasZ P t n = true) (h : newG (zc P t) t w k) : eG P (Instr.alloc t true (.tuple #[])) w k := by
  obtain ⟨z, hr, hzc, _⟩ := hasZ_run hz w
  refine ⟨newP w, _, ?_, h⟩
  simp only [Instr.alloc, Sem.run_bind, hr, Result.andThen_ok, newVar_run, hzc]
  rfl
theorem box_e {t : TypeId} {v : Value} {w : World} {k : Value → World → Prop} (h : newG v.cells t w k) : eG P (Instr.box t v) w k := by
  refine ⟨newP w, _, ?_, h⟩
  simp only [Instr.box, Sem.run_bind, Result.andThen_ok, newVar_run]
  rfl
theorem rep_eq (zero : Array Value) (n : Nat) : ((Array.range n).map (zero[· % zero.size]!)) = rep zero n := rfl
theorem newRow_run (T : TypeId) (c : Array Value) (w : World) : (newRow T c).run P w = .ok ⟨w.heap.size, 0, none⟩ (w.alloc (.cells c T)) := by
  rfl
theorem zero_or {e : TypeId} {n m : Nat} (hz : hasZ P e n = true) (w : World) (hm : m ≠ 0) :
    (do (if m = 0 then pure #[] else do pure (← zeroValue e).cells : Sem (Array Value))).run P w = .ok (zc P e) w := by
  obtain ⟨z, hr, hzc, _⟩ := hasZ_run hz w
  simp [hm, hr, hzc, pure, Sem.run]
theorem rep_zero (z z' : Array Value) : rep z 0 = rep z' 0 := by simp [rep]
theorem bsl_e {t e : TypeId} {n len : Nat} {ps : Array (Nat × Value)} {w : World} {k : Value → World → Prop} (hu : P.underlying t = some (.slice e)) (hn : szO P e = some n) (hz : hasZ P e n = true) (hle : len * n ≤ 2 ^ 24)
    (h : bsl e n len (zc P e) ps w k) : eG P (Instr.buildSlice t len ps) w k := by
  unfold bsl at h
  split at h
  · rename_i cs hcs
    refine ⟨_, _, ?_, h⟩
    obtain ⟨z, hr, hzc, _⟩ := hasZ_run hz w
    have hgt : ¬ len * n > 2 ^ 24 := by omega
    unfold Instr.buildSlice
    simp only [Sem.run_bind, run_underlying hu, Result.andThen_ok, szO_some hn, hgt, if_false]
    by_cases hm : len * n = 0
    · have hcs' : Instr.fill (fun i => some (i * n, n)) (rep #[] (len * n)) ps.toList = some cs := by
        rw [hm] at hcs ⊢; rw [rep_zero #[] (zc P e)]; exact hcs
      simp only [hm, if_true]
      rw [hm] at hcs'
      simp only [pure, Sem.run, Result.andThen_ok, rep_eq, hcs', Sem.run_bind, newRow_run]
    · simp only [hm, if_false, Sem.run_bind, hr, Result.andThen_ok, hzc, pure, Sem.run, rep_eq, hcs, newRow_run]
  · exact h.elim
theorem wrap64 (x : Int) (h0 : -9223372036854775808 ≤ x) (h1 : x < 9223372036854775808) : IntKind.i64.wrap x = x := by
  unfold IntKind.wrap IntKind.signed IntKind.bits
  simp
  omega
theorem mk_e {t e : TypeId} {i : TypeInfo} {l c : Value} {w : World} {k : Value → World → Prop} (hu : P.underlying t = some (.slice e)) (hi : P.info? e = some i) (hz : hasZ P e i.size = true)
    (h : mkG e i.size i.bytes (zc P e) l c w k) : eG P (Instr.makeSlice t l c) w k := by
  unfold mkG at h
  split at h
  · rename_i kl l kc c
    obtain ⟨⟨h0, h1, h2, h3⟩, h⟩ := h
    refine ⟨_, _, ?_, h⟩
    obtain ⟨z, hr, hzc, _⟩ := hasZ_run hz w
    have hn : szO P e = some i.size := by simp [szO, hi]
    have hwl : IntKind.i64.wrap l = l := wrap64 l (by omega) (by omega)
    have hwc : IntKind.i64.wrap c = c := wrap64 c (by omega) (by omega)
    have hA : ¬ (c < 0) := by omega
    have hB : ¬ ((i.bytes : Int) * c > 2 ^ 48) := by omega
    have hC : ¬ (l < 0) := by omega
    have hD : ¬ (l > c) := by omega
    unfold Instr.makeSlice
    simp only [Sem.run_bind, run_underlying hu, Result.andThen_ok, asInt, asIntOf, pure, Sem.run, run_typeInfo w hi, hwl, hwc]
    simp only [hA, hB, hC, hD, decide_false, Bool.or_self, Bool.false_eq_true, if_false]
    have hask : ∀ b : Nat, (askRoom b).run P w = .ok () w := by
      intro b; unfold askRoom; split <;> simp [mark, Sem.run, pure]
    by_cases hm : c.toNat * i.size = 0
    · simp [hask, szO_some hn, hm, Sem.run, rep_eq, rep_zero #[] (zc P e), newRow_run]
    · simp [hask, szO_some hn, hm, Sem.run, rep_eq, hr, hzc, newRow_run]
  · exact h.elim
theorem cvI_e {a b : TypeId} {ka k : IntKind} {x : Value} {w : World} {K : Value → Prop} (ha : P.underlying a = some (.int ka)) (hb : P.underlying b = some (.int k)) (h : cvI k x K) : qG P (convert a b x) w K := by
  unfold cvI at h
  split at h
  · refine ⟨_, ?_, h⟩
    simp [convert, run_underlying ha, run_underlying hb, Conv.intToInt, pure, Sem.run]
  · exact h.elim
theorem cvSS_e {a b : TypeId} {x : Value} {w : World} {K : Value → Prop} (ha : P.underlying a = some .string) (hb : P.underlying b = some .string) (h : cvSS x K) : qG P (convert a b x) w K := by
  unfold cvSS at h
  split at h
  · refine ⟨_, ?_, h⟩
    simp [convert, run_underlying ha, run_underlying hb, pure, Sem.run]
  · exact h.elim
theorem lenS_q {t : TypeId} {ts : Array TypeId} {ty : TypeId} {x : Value} {w : World} {K : Value → Prop} (ht : ts[0]? = some t) (hu : P.underlying t = some .string) (h : lenS x K) : qG P (Builtin.len_ ts ty #[x]) w K := by
  unfold lenS at h
  split at h
  · refine ⟨_, ?_, h⟩
    simp [Builtin.len_, ht, run_underlying hu, goInt, pure, Sem.run]
  · exact h.elim
theorem lenL_q {t e : TypeId} {ts : Array TypeId} {ty : TypeId} {x : Value} {w : World} {K : Value → Prop} (ht : ts[0]? = some t) (hu : P.underlying t = some (.slice e)) (h : lenL x K) : qG P (Builtin.len_ ts ty #[x]) w K := by
  unfold lenL at h
  split at h
  · refine ⟨_, ?_, h⟩
    simp [Builtin.len_, ht, run_underlying hu, goInt, pure, Sem.run]
  · exact h.elim
theorem lenC_q {t e : TypeId} {n : Nat} {ts : Array TypeId} {ty : TypeId} {x : Value} {w : World} {K : Value → Prop} (ht : ts[0]? = some t) (hu : P.underlying t = some (.array n e)) (h : K (.int .i64 n)) : qG P (Builtin.len_ ts ty #[x]) w K := by
  refine ⟨_, ?_, h⟩
  simp [Builtin.len_, ht, run_underlying hu, goInt, pure, Sem.run]
end Go.Q
