/- Part of the proof (text QEngB2): an engine, rules or contracts of the functions; it states nothing of the claim by itself. -/
import Derived.Test.YtnmooeoajgckmaaQEngB1
import Derived.Laws.BytesArg
/- The engine, part B2: bytes, append, copy, clear. -/
set_option linter.unusedVariables false
set_option linter.unusedSimpArgs false
namespace Go.Q
variable {P : Program}

theorem bytesOf_some : ∀ {cs : List Value} {l : List UInt8}, bytesOf cs = some l → ∃ ns : List Int, cs = ns.map (fun n => .int .u8 n) ∧ l = ns.map fun n => UInt8.ofNat n.toNat := by
  intro cs
  induction cs with
  | nil => intro l h; simp only [bytesOf, Option.some.injEq] at h; subst h; exact ⟨[], rfl, rfl⟩
  | cons v r ih =>
    intro l h
    unfold bytesOf at h
    split at h
    · rename_i hh; cases hh
    · rename_i n r' hh
      injection hh with h1 h2; subst h1; subst h2
      cases hb : bytesOf r with
      | none => rw [hb] at h; cases h
      | some l' =>
        rw [hb] at h
        simp only [Option.map_some, Option.some.injEq] at h
        obtain ⟨ns, h1, h2⟩ := ih hb
        exact ⟨n :: ns, by simp [h1], by rw [← h, h2]; simp⟩
    · cases h
theorem foldl_push (ns : List Int) : ∀ acc : ByteArray, ns.foldl (fun r n => r.push (UInt8.ofNat n.toNat)) acc = ⟨(acc.data.toList ++ ns.map fun n => UInt8.ofNat n.toNat).toArray⟩ := by
  induction ns with
  | nil => intro acc; cases acc; simp
  | cons n r ih =>
    intro acc
    rw [List.foldl_cons, ih]
    congr 1
    simp [ByteArray.push]
theorem isU8_run {e : TypeId} (h : isU8 P e = true) (w : World) : (underlying e).run P w = .ok (.int .u8) w := by
  unfold isU8 at h
  split at h
  · rename_i hu; exact run_underlying hu w
  · cases h
theorem cvBS_q {a b e : TypeId} {x : Value} {w : World} {K : Value → Prop} (ha : P.underlying a = some (.slice e)) (hb : P.underlying b = some .string) (he : isU8 P e = true) (h : cvBS x w K) : qG P (convert a b x) w K := by
  have hc : ∀ p l c, (convert a b (.slice p l c)).run P w = (Conv.bytesToString (.slice p l c)).run P w := by
    intro p l c
    simp only [convert, Sem.run_bind, run_underlying ha, run_underlying hb, Result.andThen_ok, isU8_run he]
  unfold cvBS at h
  split at h
  · rename_i l c
    refine ⟨_, ?_, h⟩
    rw [hc]
    rfl
  · rename_i p len cap
    obtain ⟨cs, hr, hk, hsz⟩ := rdN_run (P := P) h
    cases hbo : bytesOf cs.toList with
    | none => rw [hbo] at hk; exact hk.elim
    | some l =>
      rw [hbo] at hk
      refine ⟨_, ?_, hk⟩
      obtain ⟨ns, h1, h2⟩ := bytesOf_some hbo
      rw [hc, run_bytesToString w p len cap ns (by rw [hr w rfl]; congr 1; rw [← h1])]
      rw [foldl_push, h2]
      rfl
  · exact h.elim
theorem cvSB_e {a b e : TypeId} {x : Value} {w : World} {K : Value → World → Prop} (ha : P.underlying a = some .string) (hb : P.underlying b = some (.slice e)) (he : isU8 P e = true) (h : cvSB e x w K) : eG P (convert a b x) w K := by
  unfold cvSB at h
  split at h
  · rename_i s
    obtain ⟨hs, h⟩ := h
    let cap := s.size + w.tape w.drawn (.appendCap s.size 0 e) % (2 ^ 63 - s.size)
    have hlt : w.tape w.drawn (.appendCap s.size 0 e) % (2 ^ 63 - s.size) < 2 ^ 63 - s.size := Nat.mod_lt _ (by omega)
    refine ⟨_, _, ?_, h cap (Nat.le_add_right _ _) (by omega)⟩
    simp only [convert, Sem.run_bind, run_underlying ha, run_underlying hb, Result.andThen_ok, isU8_run he, Conv.stringToBytes]
    have hch : (choose (.appendCap s.size 0 e)).run P w = .ok cap w.drew := rfl
    rw [hch]
    simp only [Result.andThen_ok, newRow_run]
    have hmark : (markStringish ⟨w.drew.heap.size, 0, none⟩).run P (w.drew.alloc (.cells ((s.data.map fun b => .int .u8 b.toNat) ++ Array.replicate (cap - s.size) (.int .u8 0)) e)) =
        .ok () (w.drew.alloc (.cells (u8s s ++ Array.replicate (cap - s.size) (.int .u8 0)) e (cap, cap + 1))) := by
      unfold markStringish
      simp only [Sem.run_bind]
      have hsh : (shape w.drew.heap.size).run P (w.drew.alloc (.cells ((s.data.map fun b => .int .u8 b.toNat) ++ Array.replicate (cap - s.size) (.int .u8 0)) e)) =
          .ok (some (e, cap)) (w.drew.alloc (.cells ((s.data.map fun b => .int .u8 b.toNat) ++ Array.replicate (cap - s.size) (.int .u8 0)) e)) := by
        show Result.ok (World.shape? _ _) _ = _
        congr 1
        simp only [World.shape?, World.alloc, Array.getElem?_push_size, Array.size_append, Array.size_map, Array.size_replicate]
        congr 2
        have : s.data.size = s.size := rfl
        omega
      rw [hsh]
      simp only [Result.andThen_ok]
      show Result.ok () (World.freeze _ _ _) = _
      congr 1
      unfold World.freeze World.alloc
      simp only [Nat.one_ne_zero, if_false, World.mk.injEq, and_true]
      apply Array.ext_getElem?
      intro j
      rw [Array.getElem?_modify]
      simp only [Array.getElem?_push]
      by_cases hj : w.drew.heap.size = j
      · subst hj; simp [u8s]
      · have hj' : ¬ j = w.drew.heap.size := fun h => hj h.symm
        simp only [World.size_drew] at hj hj'
        simp [hj, hj']
    simp only [World.size_drew] at hmark
    simp only [World.size_drew, hmark, Result.andThen_ok]
    rfl
  · exact h.elim

theorem lenOf_run {x : Value} {m : Nat} (h : (match x with | .slice _ n _ => some n | .string s => some s.size | _ => none) = some m) (w : World) : (Builtin.lenOf x).run P w = .ok m w := by
  unfold Builtin.lenOf
  split at h <;> simp_all [pure]
theorem src_run {n : Nat} {x : Value} {most : Nat → Nat} {w : World} {k : Nat → Array Value → Prop} (h : src n x most w k) :
    ∃ m cs, (Builtin.lenOf x).run P w = .ok m w ∧ (∀ w' : World, w'.heap = w.heap → (Builtin.firstCells n (most m) x).run P w' = .ok cs w') ∧ k (most m) cs := by
  unfold src at h
  split at h
  · rename_i m c
    exact ⟨m, #[], rfl, fun _ _ => rfl, h⟩
  · rename_i a m c
    obtain ⟨cs, hr, hk, _⟩ := rdN_run (P := P) h
    exact ⟨m, cs, rfl, hr, hk⟩
  · rename_i s
    exact ⟨s.size, _, rfl, fun _ _ => rfl, h⟩
  · exact h.elim
theorem wrO_run {w : World} {a : Option Addr} {off : Nat} {vs : Array Value} {k : World → Prop} (h : wrO w a off vs k) :
    ∃ w', (do if let some a := a then storeCells (a.add off) vs.toList : Sem Unit).run P w = .ok () w' ∧ k w' := by
  unfold wrO at h
  cases a with
  | none => exact ⟨w, rfl, h⟩
  | some a => exact wrN_run h
theorem base_run {n : Nat} {a : Option Addr} {m c : Nat} {w : World} {k : Array Value → Prop} (h : base n a m w k) : ∃ cs, (∀ w' : World, w'.heap = w.heap → (Builtin.firstCells n m (.slice a m c)).run P w' = .ok cs w') ∧ k cs := by
  unfold base at h
  cases a with
  | none => exact ⟨#[], fun _ _ => rfl, h⟩
  | some a =>
    obtain ⟨cs, hr, hk, _⟩ := rdN_run (P := P) h
    exact ⟨cs, hr, hk⟩
theorem zeroCells_eq {e : TypeId} {n : Nat} (hz : (zc P e).size = n) (m : Nat) : Builtin.zeroCells (zc P e) m = rep (zc P e) (m * n) := by
  unfold Builtin.zeroCells rep; rw [hz]

def notInt : TypeDesc → Bool
  | .int _ => false
  | _ => true
theorem app_e {t e : TypeId} {i : TypeInfo} {ts : Array TypeId} {t1 : TypeId} {d : TypeDesc} {ty : TypeId} {s x : Value} {w : World} {k : Value → World → Prop} (ht : ts[0]? = some t) (hu : P.underlying t = some (.slice e))
    (ht1 : ts[1]? = some t1) (hu1 : P.underlying t1 = some d) (hd : notInt d = true) (hi : P.info? e = some i) (hz : hasZ P e i.size = true) (hb : 0 < i.bytes)
    (h : app e i.size i.bytes (zc P e) s x w k) : eG P (Builtin.append_ ts ty #[s, x]) w k := by
  unfold app at h
  split at h
  · rename_i a sl sc
    obtain ⟨z, hzr, hzc, hzs⟩ := hasZ_run hz w.drew
    have hn : szO P e = some i.size := by simp [szO, hi]
    obtain ⟨m, cs, hlen, hfc, h1, h2⟩ := src_run (P := P) h
    by_cases hc : sl + m ≤ sc
    · obtain ⟨w', hw, hk⟩ := wrO_run (P := P) (h1 hc)
      refine ⟨_, _, ?_, hk⟩
      unfold Builtin.append_
      cases d
      case int => exact absurd hd (by simp [notInt])
      all_goals
        simp only [ht, ht1, List.getElem?_toArray, List.getElem?_cons_zero, List.getElem?_cons_succ, Sem.run_bind, run_underlying hu, run_underlying hu1, Result.andThen_ok, szO_some hn, pure, Sem.run,
          Bool.false_eq_true, if_false, hlen, hc, if_true, Bool.not_false, hfc w rfl]
        cases a with
        | none => simp only [pure, Sem.run, Result.ok.injEq, true_and] at hw ⊢; exact hw
        | some a =>
          simp only at hw
          simp only [Sem.run_bind, hw, Result.andThen_ok]
          rfl
    · have hc' : sc < sl + m := by omega
      obtain ⟨⟨hb1, hb2⟩, h2⟩ := h2 hc'
      obtain ⟨old, hold, hk⟩ := base_run (P := P) (c := sc) h2
      let cap := (sl + m) + w.tape w.drawn (.appendCap (sl + m) sc e) % (2 ^ 63 - (sl + m))
      have hlt : w.tape w.drawn (.appendCap (sl + m) sc e) % (2 ^ 63 - (sl + m)) < 2 ^ 63 - (sl + m) := Nat.mod_lt _ (by omega)
      refine ⟨_, _, ?_, hk cap (Nat.le_add_right _ _) (by omega)⟩
      have hch : (choose (.appendCap (sl + m) sc e)).run P w = .ok cap w.drew := rfl
      have holdD : (Builtin.firstCells i.size sl (.slice a sl sc)).run P w.drew = .ok old w.drew := hold w.drew rfl
      have hfcD : (Builtin.firstCells i.size m x).run P w.drew = .ok cs w.drew := hfc w.drew rfl
      have hgt : ¬ Builtin.nextslicecap (sl + m) sc * i.bytes > 2 ^ 48 := by omega
      have hbz : ¬ i.bytes = 0 := by omega
      have hask : ∀ (b : Nat) (w : World), (askRoom b).run P w = .ok () w := by
        intro b w; unfold askRoom; split <;> simp [mark, Sem.run, pure]
      unfold Builtin.append_
      cases d
      case int => exact absurd hd (by simp [notInt])
      all_goals
        simp only [ht, ht1, List.getElem?_toArray, List.getElem?_cons_zero, List.getElem?_cons_succ, Sem.run_bind, run_underlying hu, run_underlying hu1, Result.andThen_ok, szO_some hn, pure, Sem.run,
          Bool.false_eq_true, if_false, hlen, hc, Bool.not_false, if_true, run_typeInfo w hi, run_typeInfo w.drew hi, hbz, or_self, and_false, hgt, hch, hask, holdD, hfcD, hzr, hzc, zeroCells_eq hzs, newRow_run]
        rfl
  · exact h.elim

theorem cp_e {t e : TypeId} {n : Nat} {ts : Array TypeId} {ty : TypeId} {d s : Value} {w : World} {k : Value → World → Prop} (ht : ts[0]? = some t) (hu : P.underlying t = some (.slice e)) (hn : szO P e = some n)
    (h : cp n d s w k) : eG P (Builtin.copy_ ts ty #[d, s]) w k := by
  unfold cp at h
  split at h
  · rename_i a dl dc
    obtain ⟨m, cs, hlen, hfc, h1⟩ := src_run (P := P) h
    obtain ⟨w', hw, hk⟩ := wrO_run (P := P) h1
    refine ⟨_, _, ?_, hk⟩
    unfold Builtin.copy_
    simp only [ht, List.getElem?_toArray, List.getElem?_cons_zero, List.getElem?_cons_succ, Sem.run_bind, run_underlying hu, Result.andThen_ok, szO_some hn, hlen, hfc w rfl]
    cases a with
    | none => simp only [pure, Sem.run, Result.ok.injEq, true_and] at hw ⊢; exact ⟨rfl, hw⟩
    | some a =>
      have h0 : a.add 0 = a := by simp [Addr.add]
      simp only [h0] at hw
      simp only [Sem.run_bind, hw, Result.andThen_ok]
      rfl
  · exact h.elim
theorem clr_e {t e : TypeId} {n : Nat} {ts : Array TypeId} {ty : TypeId} {x : Value} {w : World} {k : Value → World → Prop} (ht : ts[0]? = some t) (hu : P.underlying t = some (.slice e)) (hz : hasZ P e n = true)
    (h : clr n (zc P e) x w k) : eG P (Builtin.clear_ ts ty #[x]) w k := by
  obtain ⟨z, hzr, hzc, hzs⟩ := hasZ_run hz w
  unfold clr at h
  split at h
  · rename_i a c
    refine ⟨_, _, ?_, h⟩
    unfold Builtin.clear_
    simp only [ht, List.getElem?_toArray, List.getElem?_cons_zero, Sem.run_bind, run_underlying hu, Result.andThen_ok]
    cases a <;> rfl
  · rename_i l c _
    refine ⟨_, _, ?_, h⟩
    unfold Builtin.clear_
    simp only [ht, List.getElem?_toArray, List.getElem?_cons_zero, Sem.run_bind, run_underlying hu, Result.andThen_ok]
    rfl
  · rename_i a m c
    obtain ⟨w', hw, hk⟩ := wrN_run (P := P) h
    refine ⟨_, _, ?_, hk⟩
    unfold Builtin.clear_
    simp only [ht, List.getElem?_toArray, List.getElem?_cons_zero, Sem.run_bind, run_underlying hu, Result.andThen_ok, hzr, hzc, zeroCells_eq hzs, hw]
    rfl
  · exact h.elim
end Go.Q
