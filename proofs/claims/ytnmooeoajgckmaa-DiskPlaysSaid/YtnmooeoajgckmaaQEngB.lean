/- Part of the proof (text QEngB): an engine, rules or contracts of the functions; it states nothing of the claim by itself. -/
import Derived.Test.YtnmooeoajgckmaaQEngB2
set_option linter.unusedVariables false
set_option linter.unusedSimpArgs false
namespace Go.Q
variable {P : Program}

theorem runv {s : Sem Value} {w w' : World} {v : Value} (h : s.run P w = .ok v w') :
    (do pure (Next.value (← s)) : Sem Next).run P w = .ok (.value v) w' := by
  simp [h, pure, Sem.run]
theorem runu {s : Sem Unit} {w w' : World} (h : s.run P w = .ok () w') :
    (do s; pure Next.skip : Sem Next).run P w = .ok .skip w' := by
  simp [h, pure, Sem.run]

/-- what an operation comes to, its operands' values given -/
def NextOk (P : Program) (s : Sem Next) (w : World) (k : Value → World → Prop) : Prop :=
  match s.run P w with
  | .ok (.value v) w' => k v w'
  | .ok .skip w' => k undef w'
  | .ok (.enter f args) w' => Calls P f args w' fun e w'' => ∃ v, e = .returned v ∧ k v w''
  | _ => False

theorem NextOk.wp {o : Oper} {a : Act} {w : World} {Q : Exit → Act → World → Prop} {next : Act → World → Prop} {k : Value → World → Prop}
    (h : NextOk P (execOp a.eval o) w k) (hk : ∀ v w', k v w' → next (a.put o.dst v) w') : o.wp P a w next Q := by
  unfold Oper.wp
  unfold NextOk at h
  split at h
  · rename_i v w' hr; rw [hr]; exact hk _ _ h
  · rename_i w' hr; rw [hr]; exact hk _ _ h
  · rename_i f args w' hr; rw [hr]
    exact h.mono fun e w'' ⟨v, he, hv⟩ => by subst he; exact hk _ _ hv
  · exact h.elim

theorem NextOk.mono {s : Sem Next} {w : World} {k k' : Value → World → Prop} (h : NextOk P s w k) (hk : ∀ v w', k v w' → k' v w') : NextOk P s w k' := by
  unfold NextOk at *
  split at h
  · rename_i hr; exact hk _ _ h
  · rename_i hr; exact hk _ _ h
  · rename_i hr; exact h.mono fun e w'' ⟨v, he, hv⟩ => ⟨v, he, hk _ _ hv⟩
  · exact h.elim

theorem qG_ok {s : Sem Value} {w : World} {k : Value → World → Prop} (h : qG P s w fun v => k v w) : NextOk P (do pure (Next.value (← s))) w k := by
  obtain ⟨v, hr, hk⟩ := h
  unfold NextOk; rw [runv hr]; exact hk
theorem eG_ok {s : Sem Value} {w : World} {k : Value → World → Prop} (h : eG P s w k) : NextOk P (do pure (Next.value (← s))) w k := by
  obtain ⟨v, w', hr, hk⟩ := h
  unfold NextOk; rw [runv hr]; exact hk
theorem uG_ok {s : Sem Unit} {w : World} {k : Value → World → Prop} (h : uG P s w fun w => k undef w) : NextOk P (do s; pure Next.skip) w k := by
  obtain ⟨w', hr, hk⟩ := h
  unfold NextOk; rw [runu hr]; exact hk

theorem callFunc_run {f : FuncId} {args : Array Value} {w : World} (h : hasBody P f = true) : (callFunc f args).run P w = .ok (.enter f args) w := by
  unfold hasBody at h
  split at h
  · rename_i fn hf
    simp only [Bool.and_eq_true, Bool.not_eq_true'] at h
    obtain ⟨hn, hb⟩ := h
    have hb' : fn.body ≠ none := by intro hx; simp [hx] at hb
    have hn' : fn.name ≠ "runtime.NumGoroutine" := by simpa using hn
    simp [callFunc, program, Sem.run, hf, hn', hb', pure]
  · cases h

theorem amap_eq (ρ : Operand → Value) (xs : Array Operand) : amap ρ xs = xs.map ρ := by simp [amap, ← Array.toList_map]
theorem pmap_eq (ρ : Operand → Value) (xs : Array (Nat × Operand)) : pmap ρ xs = xs.map fun (i, x) => (i, ρ x) := by simp [pmap, ← Array.toList_map]
theorem bsem_ok {b : Builtin} {ts : Array TypeId} {t : TypeId} {args : Array Value} {s : Sem Value} (h : bsem b ts t args = some s) (cs : Array Bool) :
    builtin b ts t cs args = (do pure (Next.value (← s))) := by
  cases b <;> simp only [bsem, Option.some.injEq, reduceCtorEq] at h <;> subst h <;> rfl
theorem exec_builtin {ρ : Operand → Value} {o : Oper} {c : Call} {b : Builtin} {s : Sem Value} (ho : o.op = .call c) (hc : c.callee = .builtin b) (hs : bsem b c.argTypes o.type (amap ρ c.args) = some s) :
    execOp ρ o = (do pure (Next.value (← s))) := by
  have hex : execOp ρ o = (do let d ← resolve ρ c o.type; invoke d.target d.args) := by unfold execOp; rw [ho]
  have hr : (do let d ← resolve ρ c o.type; invoke d.target d.args : Sem Next) = builtin b c.argTypes o.type (c.args.map fun | .const _ => true | _ => false) (amap ρ c.args) := by
    simp only [resolve, hc, amap_eq]; rfl
  rw [hex, hr, bsem_ok hs]
theorem qsem_ok {ρ : Operand → Value} {o : Oper} {s : Sem Value} (h : qsem ρ o.type o.op = some s) : execOp ρ o = (do pure (Next.value (← s))) := by
  cases ho : o.op with
  | call c =>
    rw [ho] at h
    simp only [qsem] at h
    split at h
    · rename_i b hc
      cases hq : quietB b with
      | true => rw [hq] at h; exact exec_builtin ho hc h
      | false => rw [hq] at h; cases h
    · cases h
  | _ => rw [ho] at h; unfold execOp; rw [ho]; simp only [qsem, amap_eq, pmap_eq, Option.some.injEq, reduceCtorEq] at h <;> subst h <;> rfl
theorem esem_ok {ρ : Operand → Value} {o : Oper} {s : Sem Value} (h : esem ρ o.type o.op = some s) : execOp ρ o = (do pure (Next.value (← s))) := by
  cases ho : o.op with
  | call c =>
    rw [ho] at h
    simp only [esem] at h
    split at h
    · rename_i b hc; exact exec_builtin ho hc h
    · cases h
  | _ => rw [ho] at h; unfold execOp; rw [ho]; simp only [esem, Option.some.injEq, reduceCtorEq] at h <;> subst h <;> rfl
theorem usem_ok {ρ : Operand → Value} {o : Oper} {s : Sem Unit} (h : usem ρ o.op = some s) : execOp ρ o = (do s; pure Next.skip) := by
  unfold execOp
  cases ho : o.op <;> rw [ho] at h <;> simp only [usem, Option.some.injEq, reduceCtorEq] at h <;> subst h <;> rfl

theorem viaQ {ex : Sem Next} {s : Sem Value} {w : World} {k : Value → World → Prop} (hs : ex = (do pure (Next.value (← s)))) (h : qG P s w fun v => k v w) : NextOk P ex w k := by rw [hs]; exact qG_ok h
theorem viaE {ex : Sem Next} {s : Sem Value} {w : World} {k : Value → World → Prop} (hs : ex = (do pure (Next.value (← s)))) (h : eG P s w k) : NextOk P ex w k := by rw [hs]; exact eG_ok h
theorem viaU {ex : Sem Next} {s : Sem Unit} {w : World} {k : Value → World → Prop} (hs : ex = (do s; pure Next.skip)) (h : uG P s w fun w => k undef w) : NextOk P ex w k := by rw [hs]; exact uG_ok h

theorem raw_ok {o : Oper} {ρ : Operand → Value} {w : World} {k : Value → World → Prop} (h : lowK P o .raw ρ w k) : NextOk P (execOp ρ o) w k := by
  simp only [lowK] at h
  split at h
  · rename_i s hs; rw [qsem_ok hs]; exact qG_ok h
  · split at h
    · rename_i s hs; rw [usem_ok hs]; exact uG_ok h
    · split at h
      · rename_i s hs; rw [esem_ok hs]; exact eG_ok h
      · exact h.elim
theorem toList_one {α : Type} {xs : Array α} {x : α} (h : xs.toList = [x]) : xs = #[x] := by cases xs; simp_all
theorem toList_two {α : Type} {xs : Array α} {x y : α} (h : xs.toList = [x, y]) : xs = #[x, y] := by cases xs; simp_all
theorem bind_some_of {ts : Array TypeId} {d : TypeDesc} (h : (ts[0]?).bind P.underlying = some d) : ∃ t, ts[0]? = some t ∧ P.underlying t = some d := by
  cases ht : ts[0]? with
  | none => rw [ht] at h; cases h
  | some t => rw [ht] at h; exact ⟨t, rfl, h⟩
theorem bind_some_of1 {ts : Array TypeId} {d : TypeDesc} (h : (ts[1]?).bind P.underlying = some d) : ∃ t, ts[1]? = some t ∧ P.underlying t = some d := by
  cases ht : ts[1]? with
  | none => rw [ht] at h; cases h
  | some t => rw [ht] at h; exact ⟨t, rfl, h⟩
theorem calls_ok {o : Oper} {ρ : Operand → Value} {c : Call} {w : World} {k : Value → World → Prop} (hρ : ∀ f, ρ (.func f) = .func (.func f) #[] #[]) (ho : o.op = .call c) (h : opK P o ρ w k) : NextOk P (execOp ρ o) w k := by
  have hex : execOp ρ o = (do let d ← resolve ρ c o.type; invoke d.target d.args) := by unfold execOp; rw [ho]
  unfold opK lower at h
  rw [ho] at h
  simp only at h
  cases hc : c.callee with
  | value x =>
    have hv : ∀ fn first captured, ρ x = .func (.func fn) first captured →
        (do let d ← resolve ρ c o.type; invoke d.target d.args : Sem Next) = callFunc fn (first ++ amap ρ c.args ++ captured) := by
      intro fn first captured hx
      simp only [resolve, hc, Deferred.ofValue, hx, amap_eq]
      rfl
    have hval : callV P (ρ x) (amap ρ c.args) w k → NextOk P (execOp ρ o) w k := by
      intro h
      unfold callV at h
      split at h
      · rename_i f first captured hx
        rw [hex, hv f first captured hx]
        unfold NextOk
        rw [callFunc_run h.1]
        exact h.2
      · exact h.elim
    rw [hc] at h
    cases x with
    | tmp t => exact hval h
    | const t => exact hval h
    | global t => exact hval h
    | func f =>
      have hr := hv f #[] #[] (hρ f)
      simp only [Array.empty_append, Array.append_empty] at hr
      rw [hex, hr]
      simp only at h
      cases hb : hasBody P f <;> rw [hb] at h <;> simp only [cond_true, cond_false, lowK] at h
      · obtain ⟨v, w', hrun, hk⟩ := h
        unfold NextOk; rw [hrun]; exact hk
      · unfold NextOk; rw [callFunc_run hb]; exact h
  | invoke r m => rw [hc] at h; exact raw_ok h
  | builtin b =>
    rw [hc] at h
    cases b with
    | len =>
      simp only at h
      split at h
      · rename_i x ha hu
        obtain ⟨t, ht, hu⟩ := bind_some_of hu
        exact viaQ (exec_builtin ho hc (by rw [toList_one ha]; rfl)) (lenS_q ht hu h)
      · rename_i x e ha hu
        obtain ⟨t, ht, hu⟩ := bind_some_of hu
        exact viaQ (exec_builtin ho hc (by rw [toList_one ha]; rfl)) (lenL_q ht hu h)
      · rename_i x n e ha hu
        obtain ⟨t, ht, hu⟩ := bind_some_of hu
        exact viaQ (exec_builtin ho hc (by rw [toList_one ha]; rfl)) (lenC_q ht hu h)
      · exact raw_ok h
    | append =>
      simp only at h
      split at h
      · rename_i s x e d ha hu hu1
        obtain ⟨t, ht, hu⟩ := bind_some_of hu
        obtain ⟨t1, ht1, hu1⟩ := bind_some_of1 hu1
        split at h
        · exact raw_ok h
        · rename_i hd
          split at h
          · rename_i i hi
            cases hz : hasZ P e i.size && Nat.blt 0 i.bytes with
            | false => rw [hz] at h; exact raw_ok h
            | true =>
              rw [hz] at h
              simp only [Bool.and_eq_true] at hz
              exact viaE (exec_builtin ho hc (by rw [toList_two ha]; rfl)) (app_e ht hu ht1 hu1 (by cases d <;> first | rfl | exact absurd rfl (hd _)) hi hz.1 (Nat.blt_eq ▸ hz.2) h)
          · exact raw_ok h
      · exact raw_ok h
    | copy =>
      simp only at h
      split at h
      · rename_i d s e ha hu
        obtain ⟨t, ht, hu⟩ := bind_some_of hu
        split at h
        · rename_i n hn
          exact viaE (exec_builtin ho hc (by rw [toList_two ha]; rfl)) (cp_e ht hu hn h)
        · exact raw_ok h
      · exact raw_ok h
    | clear =>
      simp only at h
      split at h
      · rename_i x e ha hu
        obtain ⟨t, ht, hu⟩ := bind_some_of hu
        split at h
        · rename_i n hn
          cases hz : hasZ P e n with
          | false => rw [hz] at h; exact raw_ok h
          | true =>
            rw [hz] at h
            exact viaE (exec_builtin ho hc (by rw [toList_one ha]; rfl)) (clr_e ht hu hz h)
        · exact raw_ok h
      · exact raw_ok h
    | _ => exact raw_ok h
theorem opK_ok {o : Oper} {ρ : Operand → Value} {w : World} {k : Value → World → Prop} (hρ : ∀ f, ρ (.func f) = .func (.func f) #[] #[]) (h : opK P o ρ w k) : NextOk P (execOp ρ o) w k := by
  cases ho : o.op with
  | call c => exact calls_ok hρ ho h
  | move x => unfold opK lower at h; rw [ho] at h; unfold execOp NextOk; rw [ho]; exact h
  | assign x => unfold opK lower at h; rw [ho] at h; unfold execOp NextOk; rw [ho]; exact h
  | pick c a b =>
    unfold opK lower at h; rw [ho] at h
    unfold execOp NextOk; rw [ho]
    simp only [lowK, pk] at h
    split at h
    · rename_i t hc
      cases t <;> simpa [hc, asBool, pure, Sem.run] using h
    · exact h.elim
  | nilCheck x =>
    unfold opK lower at h; rw [ho] at h
    unfold execOp NextOk; rw [ho]
    simp only [lowK, nk] at h
    split at h
    · rename_i a hx; simp only [hx]; exact h
    · rename_i f a b hx; simp only [hx]; exact h
    · exact h.elim
  | load t a =>
    unfold opK lower at h; rw [ho] at h; simp only at h
    have hex : execOp ρ o = (do pure (Next.value (← Instr.loadAt t (ρ a)))) := by unfold execOp; rw [ho]
    split at h
    · rename_i n ha hn; exact viaQ hex (ldn_q ha hn h)
    · rename_i ha; exact viaQ hex (ld1_q ha h)
    · exact raw_ok h
  | store t a x =>
    unfold opK lower at h; rw [ho] at h; simp only at h
    have hex : execOp ρ o = (do Instr.storeAt t (ρ a) (ρ x); pure Next.skip) := by unfold execOp; rw [ho]
    split at h
    · rename_i n ha hn; exact viaU hex (stn_u hn h)
    · rename_i ha hn; exact viaU hex (st1_u hn h)
    · exact raw_ok h
  | fieldAddr s x f =>
    unfold opK lower at h; rw [ho] at h; simp only at h
    have hex : execOp ρ o = (do pure (Next.value (← Instr.fieldAt s (ρ x) f))) := by unfold execOp; rw [ho]
    split at h
    · rename_i fs hu
      split at h
      · rename_i fd hf
        split at h
        · rename_i n hn; exact viaQ hex (fa_q hu hf hn h)
        · exact raw_ok h
      · exact raw_ok h
    · exact raw_ok h
  | indexAddr t x i =>
    unfold opK lower at h; rw [ho] at h; simp only at h
    have hex : execOp ρ o = (do pure (Next.value (← Instr.indexAt t (ρ x) (ρ i)))) := by unfold execOp; rw [ho]
    split at h
    · rename_i e hu
      split at h
      · rename_i n hn; exact viaQ hex (ia_q hu hn h)
      · exact raw_ok h
    · rename_i len e hu
      split at h
      · rename_i n hn; exact viaQ hex (iaA_q hu hn h)
      · exact raw_ok h
    · exact raw_ok h
  | index t x i =>
    unfold opK lower at h; rw [ho] at h; simp only at h
    have hex : execOp ρ o = (do pure (Next.value (← Instr.index t (ρ x) (ρ i)))) := by unfold execOp; rw [ho]
    split at h
    · rename_i hu; exact viaQ hex (ixS_q hu h)
    · rename_i len e hu
      split at h
      · rename_i n a hn ha; exact viaQ hex (ixA_q hu hn ha h)
      · exact raw_ok h
    · exact raw_ok h
  | slice t x lo hi mx =>
    unfold opK lower at h; rw [ho] at h
    cases mx with
    | some m => exact raw_ok h
    | none =>
      simp only at h
      have hex : execOp ρ o = (do pure (Next.value (← Instr.sliceAt t (ρ x) (lo.map ρ) (hi.map ρ) none))) := by unfold execOp; rw [ho]; rfl
      split at h
      · rename_i hu; exact viaQ hex (slS_q hu h)
      · rename_i e hu
        split at h
        · rename_i n hn; exact viaQ hex (slL_q hu hn h)
        · exact raw_ok h
      · rename_i len e hu
        split at h
        · rename_i n hn; exact viaQ hex (slA_q hu hn h)
        · exact raw_ok h
      · exact raw_ok h
  | field t x f =>
    unfold opK lower at h; rw [ho] at h; simp only at h
    have hex : execOp ρ o = (do pure (Next.value (← Instr.field t (ρ x) f))) := by unfold execOp; rw [ho]
    split at h
    · rename_i fs hu
      split at h
      · rename_i fd hf
        split at h
        · rename_i n a hn ha; exact viaQ hex (fld_q hu hf hn ha h)
        · exact raw_ok h
      · exact raw_ok h
    · exact raw_ok h
  | build t ps =>
    unfold opK lower at h; rw [ho] at h; simp only at h
    have hex : execOp ρ o = (do pure (Next.value (← Instr.build t (pmap ρ ps)))) := by unfold execOp; rw [ho, pmap_eq]
    split at h
    · rename_i fs n hu hn
      split at h
      · rename_i l hl
        cases hz : hasZ P t n with
        | false => rw [hz] at h; exact raw_ok h
        | true => rw [hz] at h; exact viaQ hex (bld_q hu hl hz h)
      · exact raw_ok h
    · exact raw_ok h
  | alloc t =>
    unfold opK lower at h; rw [ho] at h; simp only at h
    have hex : execOp ρ o = (do pure (Next.value (← Instr.alloc t true (.tuple #[])))) := by unfold execOp; rw [ho]
    split at h
    · rename_i n hn
      cases hz : hasZ P t n with
      | false => rw [hz] at h; exact raw_ok h
      | true => rw [hz] at h; exact viaE hex (new_e hz h)
    · exact raw_ok h
  | box t x =>
    unfold opK lower at h; rw [ho] at h; simp only at h
    have hex : execOp ρ o = (do pure (Next.value (← Instr.box t (ρ x)))) := by unfold execOp; rw [ho]
    exact viaE hex (box_e h)
  | buildSlice t len ps =>
    unfold opK lower at h; rw [ho] at h; simp only at h
    have hex : execOp ρ o = (do pure (Next.value (← Instr.buildSlice t len (pmap ρ ps)))) := by unfold execOp; rw [ho, pmap_eq]
    split at h
    · rename_i e hu
      split at h
      · rename_i n hn
        cases hz : hasZ P e n && Nat.ble (len * n) (2 ^ 24) with
        | false => rw [hz] at h; exact raw_ok h
        | true =>
          rw [hz] at h
          simp only [Bool.and_eq_true] at hz
          exact viaE hex (bsl_e hu hn hz.1 (Nat.le_of_ble_eq_true hz.2) h)
      · exact raw_ok h
    · exact raw_ok h
  | makeSlice t l c =>
    unfold opK lower at h; rw [ho] at h; simp only at h
    have hex : execOp ρ o = (do pure (Next.value (← Instr.makeSlice t (ρ l) (ρ c)))) := by unfold execOp; rw [ho]
    split at h
    · rename_i e hu
      split at h
      · rename_i i hi
        cases hz : hasZ P e i.size with
        | false => rw [hz] at h; exact raw_ok h
        | true => rw [hz] at h; exact viaE hex (mk_e hu hi hz h)
      · exact raw_ok h
    · exact raw_ok h
  | convert a b x =>
    unfold opK lower at h; rw [ho] at h; simp only at h
    have hex : execOp ρ o = (do pure (Next.value (← convert a b (ρ x)))) := by unfold execOp; rw [ho]
    split at h
    · rename_i ka kb ha hb; exact viaQ hex (cvI_e ha hb h)
    · rename_i ha hb; exact viaQ hex (cvSS_e ha hb h)
    · rename_i e ha hb
      cases he : isU8 P e with
      | false => rw [he] at h; exact raw_ok h
      | true => rw [he] at h; exact viaQ hex (cvBS_q ha hb he h)
    · rename_i e ha hb
      cases he : isU8 P e with
      | false => rw [he] at h; exact raw_ok h
      | true => rw [he] at h; exact viaE hex (cvSB_e ha hb he h)
    · exact raw_ok h
  | _ => unfold opK lower at h; rw [ho] at h; exact raw_ok h

/-- the frame and the environment say the same -/
structure Ag (n : Nat) (a : Act) (e : Env) : Prop where
  defers : a.defers = []
  size : a.tmps.size = n
  eq : ∀ t, a.tmps.getD t undef = e t

theorem Ag.eval {n : Nat} {a : Act} {e : Env} (h : Ag n a e) : a.eval = ev e := by
  funext x
  cases x with
  | tmp t => exact h.eq t
  | _ => rfl

theorem upd_eq (e : Env) (d : Nat) (v : Value) (t : Nat) : upd e d v t = if t = d then v else e t := by
  unfold upd
  by_cases h : t = d
  · simp [h]
  · have hb : Nat.beq t d = false := by rw [Bool.eq_false_iff]; exact fun hh => h (Nat.eq_of_beq_eq_true hh)
    simp [h, hb]

theorem Ag.put {n : Nat} {a : Act} {e : Env} (h : Ag n a e) {d : Option Nat} (hd : ∀ x, d = some x → x < n) (v : Value) : Ag n (a.put d v) (updO e d v) := by
  cases d with
  | none => exact h
  | some x =>
    have hx := hd x rfl
    refine ⟨h.defers, by simp [Act.put, h.size], fun t => ?_⟩
    have hs := h.size
    have he := h.eq t
    simp only [Act.put, updO, upd_eq]
    by_cases ht : t = x
    · subst ht; simp [hs, hx]
    · simp only [ht, if_false, ← he]
      simp [Array.getD_eq_getD_getElem?, Array.getElem?_setIfInBounds_ne (Ne.symm ht)]

theorem ev_func (e : Env) (f : FuncId) : ev e (.func f) = .func (.func f) #[] #[] := rfl

theorem upd_self {e : Env} {d : Nat} {v : Value} (h : e d = v) : upd e d v = e := by
  funext t
  rw [upd_eq]
  split
  · rename_i ht; rw [ht, h]
  · rfl
theorem bV_cases {c : Value} {T F : Prop} (h : bV c T F) : (c = .bool true ∧ T) ∨ (c = .bool false ∧ F) := by
  unfold bV at h
  split at h
  · exact .inl ⟨rfl, h⟩
  · exact .inr ⟨rfl, h⟩
  · exact h.elim
/-- what is known of the guards holds in the frame -/
def MemoOk (ops : Array Oper) (m : List (Nat × Option Bool)) (a : Act) : Prop := ∀ j b, look m j = some b → yielded ops a.tmps j = b

theorem look_cons (m : List (Nat × Option Bool)) (i j : Nat) (b : Option Bool) : look ((i, b) :: m) j = if i = j then some b else look m j := by
  by_cases h : i = j
  · subst h; simp [look]
  · have hb : Nat.beq i j = false := by rw [Bool.eq_false_iff]; exact fun hh => h (Nat.eq_of_beq_eq_true hh)
    simp [look, h, hb]

theorem yielded_put_ne {ops : Array Oper} {a : Act} {d : Option Nat} {v : Value} {j : Nat} (h : ∀ x y, (ops[j]?).bind (·.dst) = some x → d = some y → x ≠ y) :
    yielded ops (a.put d v).tmps j = yielded ops a.tmps j := by
  unfold yielded
  cases hx : (ops[j]?).bind (·.dst) with
  | none => rfl
  | some x =>
    cases d with
    | none => rfl
    | some y =>
      have := h x y hx rfl
      simp only [Option.bind_some, Act.put]
      rw [Array.getElem?_setIfInBounds_ne (Ne.symm this)]

theorem yielded_put_undef {ops : Array Oper} {a : Act} {j : Nat} {o : Oper} (ho : ops[j]? = some o) (h : o.dst = none ∨ ∃ d, o.dst = some d ∧ d < a.tmps.size) :
    yielded ops (a.put o.dst undef).tmps j = none := by
  unfold yielded
  rcases h with h | ⟨d, h, hd⟩
  · simp [ho, h]
  · simp only [ho, h, Option.bind_some, Act.put]
    rw [Array.getElem?_setIfInBounds_self_of_lt hd]
    rfl

theorem yielded_of_env {ops : Array Oper} {n : Nat} {a : Act} {e : Env} (h : Ag n a e) {j : Nat} (hj : hasDst ops j = true) (hn : dstOf ops j < n) {b : Bool} (hb : e (dstOf ops j) = .bool b) :
    yielded ops a.tmps j = some b := by
  unfold hasDst at hj
  unfold dstOf at hn hb
  unfold yielded
  cases hx : (ops[j]?).bind (·.dst) with
  | none => rw [hx] at hj; cases hj
  | some d =>
    rw [hx] at hn hb
    simp only [Option.getD_some] at hn hb
    have he := h.eq d
    have hs := h.size
    rw [hb] at he
    have : a.tmps[d]? = some (.bool b) := by
      have hlt : d < a.tmps.size := by rw [hs]; exact hn
      rw [Array.getElem?_eq_getElem hlt]
      simp [Array.getD, hlt] at he
      rw [he]
    simp [this]

theorem regOk_lt {n : Nat} {ops : Array Oper} (h : regOk n ops = true) {i : Nat} {o : Oper} (ho : ops[i]? = some o) : ∀ d, o.dst = some d → d < n := by
  intro d hd
  unfold regOk at h
  simp only [Bool.and_eq_true, List.all_eq_true] at h
  have hm : o ∈ ops.toList := by
    have := List.mem_of_getElem? (l := ops.toList) (i := i) (a := o) (by simpa using ho)
    exact this
  have := h.1 o hm
  rw [hd] at this
  exact Nat.blt_eq ▸ this

theorem regOk_ne {n : Nat} {ops : Array Oper} (h : regOk n ops = true) {i j : Nat} {x y : Nat} (hij : i ≠ j) (hx : (ops[i]?).bind (·.dst) = some x) (hy : (ops[j]?).bind (·.dst) = some y) : x ≠ y := by
  unfold regOk at h
  simp only [Bool.and_eq_true, List.all_eq_true, List.mem_range] at h
  have key : ∀ (i j x y : Nat), j < i → (ops[i]?).bind (·.dst) = some x → (ops[j]?).bind (·.dst) = some y → x ≠ y := by
    intro i j x y hlt hx hy
    have hi : i < ops.size := by
      rcases Nat.lt_or_ge i ops.size with h | h
      · exact h
      · simp [Array.getElem?_eq_none h] at hx
    have := h.2 i hi j hlt
    rw [hx, hy] at this
    intro hxy
    subst hxy
    simp at this
  rcases Nat.lt_or_gt_of_ne hij with hlt | hlt
  · exact (key j i y x hlt hy hx).symm
  · exact key i j x y hlt hx hy

theorem opsK_ok {n : Nat} {ops : Array Oper} (hreg : regOk n ops = true) {Q : Exit → Act → World → Prop} {k : Env → World → Prop}
    (hk : ∀ a e w, Ag n a e → k e w → Q .normal a w) :
    ∀ (l : List Oper) (i : Nat) (m : List (Nat × Option Bool)) (e : Env) (w : World) (a : Act), (∀ j, l[j]? = ops[i + j]?) → (∀ j b, look m j = some b → j < i) → Ag n a e → MemoOk ops m a →
      opsK P ops l i m e w k → wpList P ops Q l a w := by
  intro l
  induction l with
  | nil => intro i m e w a _ _ hag _ h; exact hk _ _ _ hag h
  | cons o rest ih =>
    intro i m e w a hl hlt hag hm h
    have ho : ops[i]? = some o := by have := hl 0; simpa using this.symm
    have hl' : ∀ j, rest[j]? = ops[i + 1 + j]? := fun j => by
      have := hl (j + 1)
      simp only [List.getElem?_cons_succ] at this
      rw [this]; congr 1; omega
    have hdst := regOk_lt hreg ho
    -- the run of this operation, and what is known behind it
    have hrun : ∀ m', MemoOk ops m' a → (∀ j b, look m' j = some b → j < i) → Region.wanted o (yielded ops a.tmps) = true →
        opK P o (ev e) w (fun v w => opsK P ops rest (i + 1) m' (updO e o.dst v) w k) → wpList P ops Q (o :: rest) a w := by
      intro m' hm' hlt' hw h
      unfold wpList
      rw [if_pos hw]
      refine .inl (NextOk.wp (by rw [hag.eval]; exact opK_ok (ev_func e) h) fun v w' hv => ?_)
      refine ih (i + 1) m' _ w' _ hl' (fun j b hj => Nat.lt_succ_of_lt (hlt' j b hj)) (hag.put hdst v) (fun j b hj => ?_) hv
      rw [yielded_put_ne]
      · exact hm' j b hj
      · intro x y hx hy
        exact regOk_ne hreg (Nat.ne_of_lt (hlt' j b hj)) hx (by simp [ho, hy])
    have hskip : ∀ m', MemoOk ops m' a → (∀ j b, look m' j = some b → j < i) → Region.wanted o (yielded ops a.tmps) = false →
        opsK P ops rest (i + 1) ((i, none) :: m') (updO e o.dst undef) w k → wpList P ops Q (o :: rest) a w := by
      intro m' hm' hlt' hw h
      unfold wpList
      rw [if_neg (by simp [hw])]
      refine ih (i + 1) _ _ w _ hl' (fun j b hj => ?_) (hag.put hdst undef) (fun j b hj => ?_) h
      · rw [look_cons] at hj
        split at hj
        · rename_i hij; omega
        · exact Nat.lt_succ_of_lt (hlt' j b hj)
      · rw [look_cons] at hj
        split at hj
        · rename_i hij; subst hij
          simp only [Option.some.injEq] at hj
          subst hj
          refine yielded_put_undef ho ?_
          cases hd : o.dst with
          | none => exact .inl rfl
          | some d => exact .inr ⟨d, rfl, by rw [hag.size]; exact hdst d hd⟩
        · rw [yielded_put_ne]
          · exact hm' j b hj
          · intro x y hx hy
            exact regOk_ne hreg (Nat.ne_of_lt (hlt' j b hj)) hx (by simp [ho, hy])
    unfold opsK at h
    split at h
    · rename_i hg
      exact hrun m hm hlt (by simp [Region.wanted, hg]) h
    · rename_i j t hg
      have hwant : ∀ b, yielded ops a.tmps j = b → Region.wanted o (yielded ops a.tmps) = (b == some t) := by
        intro b hb; simp [Region.wanted, hg, hb]
      split at h
      · rename_i b hb
        have hy := hm j _ hb
        cases hbt : (b == t) <;> rw [hbt] at h
        · exact hskip m hm hlt (by rw [hwant _ hy]; simpa using hbt) h
        · exact hrun m hm hlt (by rw [hwant _ hy]; simpa using hbt) h
      · rename_i hb
        have hy := hm j _ hb
        exact hskip m hm hlt (by rw [hwant _ hy]; rfl) h
      · rename_i hb
        cases hd : (hasDst ops j && Nat.blt j i) <;> rw [hd] at h
        · exact h.elim
        simp only [Bool.and_eq_true] at hd
        obtain ⟨hd, hji⟩ := hd
        have hji : j < i := Nat.blt_eq ▸ hji
        simp only [cond_true] at h
        have hall : ∃ b, e (dstOf ops j) = .bool b ∧ (if b = true then
            (bif t then opK P o (ev e) w fun v w => opsK P ops rest (i + 1) ((j, some true) :: m) (updO e o.dst v) w k
             else opsK P ops rest (i + 1) ((i, none) :: (j, some true) :: m) (updO e o.dst undef) w k)
            else (bif t then opsK P ops rest (i + 1) ((i, none) :: (j, some false) :: m) (updO e o.dst undef) w k
             else opK P o (ev e) w fun v w => opsK P ops rest (i + 1) ((j, some false) :: m) (updO e o.dst v) w k)) := by
          rcases bV_cases h with ⟨hc, h⟩ | ⟨hc, h⟩
          · rw [upd_self hc] at h; exact ⟨true, hc, h⟩
          · rw [upd_self hc] at h; exact ⟨false, hc, h⟩
        · obtain ⟨b, hval, h⟩ := hall
          have hjn : dstOf ops j < n := by
            unfold hasDst at hd
            unfold dstOf
            cases hx : ops[j]? with
            | none => simp [hx] at hd
            | some oj =>
              simp only [hx, Option.bind_some] at hd ⊢
              cases hdj : oj.dst with
              | none => simp [hdj] at hd
              | some d => exact regOk_lt hreg hx d hdj
          have hy := yielded_of_env hag hd hjn hval
          have hm' : MemoOk ops ((j, some b) :: m) a := fun j' b' hj' => by
            rw [look_cons] at hj'
            split at hj'
            · rename_i hjj; subst hjj; simp only [Option.some.injEq] at hj'; subst hj'; exact hy
            · exact hm j' b' hj'
          have hlt' : ∀ j' b', look ((j, some b) :: m) j' = some b' → j' < i := fun j' b' hj' => by
            rw [look_cons] at hj'
            split at hj'
            · rename_i hjj; subst hjj; exact hji
            · exact hlt j' b' hj'
          have hw := hwant _ hy
          cases b
          · simp only [Bool.false_eq_true, if_false] at h
            cases t
            · exact hrun _ hm' hlt' (by rw [hw]; rfl) h
            · exact hskip _ hm' hlt' (by rw [hw]; rfl) h
          · simp only [if_true] at h
            cases t
            · exact hskip _ hm' hlt' (by rw [hw]; rfl) h
            · exact hrun _ hm' hlt' (by rw [hw]; rfl) h
end Go.Q
